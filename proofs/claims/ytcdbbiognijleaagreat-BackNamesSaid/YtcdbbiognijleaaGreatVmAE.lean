/-
  Abstract states over the model's worlds, and that a step of them is a step of the program: part VmAE of a framework. Conditions: each theorem's own premises. By an AI agent.
-/
import Derived.Test.YtcdbbiognijleaaGreatVmAD
import Derived.DeepKeys3
import Derived.Maps.Keyed
namespace Go.Vm
open Go Go.RowKit
set_option linter.unusedVariables false
set_option linter.unusedSimpArgs false

/-! ### Maps with keys of any kind; keys that are there already -/
def wideB (P : Program) (k : TypeId) : Bool := P.keyTypeAt 3 k && P.tiled 3 k
def keyedB (P : Program) (k : TypeId) : Bool :=
  match P.underlying k with
  | some .bool => true
  | some (.int _) => true
  | some .string => true
  | some (.array _ _) => wideB P k
  | some (.struct _) => wideB P k
  | _ => false
theorem keyedB_law {P : Program} {k : TypeId} (h : keyedB P k = true) : Maps.Keyed P k := by
  unfold keyedB at h
  split at h
  · rename_i hu; exact Maps.bool_keyed hu
  · rename_i hu; exact Maps.int_keyed hu
  · rename_i hu; exact Maps.string_keyed hu
  · rename_i hu
    unfold wideB at h
    rw [Bool.and_eq_true] at h
    exact Maps.Keyed.of_law (deep_law (m := 3) (by omega) h.1 h.2 (by rw [hu]))
  · rename_i hu
    unfold wideB at h
    rw [Bool.and_eq_true] at h
    exact Maps.Keyed.of_law (deep_law (m := 3) (by omega) h.1 h.2 (by rw [hu]))
  · cases h

def valsOf : List PC → Option (List Value)
  | [] => some []
  | .c v :: ps =>
    match valsOf ps with
    | some vs => some (v :: vs)
    | none => none
  | _ => none
def keyA : PV → Option Value
  | .one (.c v) => some v
  | .agg ps =>
    match valsOf ps with
    | some vs => some (.agg vs.toArray)
    | none => none
  | _ => none

/-- Are two scalars alike? none: not told. -/
def eqSc : Value → Value → Option Bool
  | .int k a, .int k' b => some (decide (k = k') && decide (a = b))
  | .bool a, .bool b => some (a == b)
  | .string a, .string b => some (decide (a.data.toList = b.data.toList))
  | _, _ => none
def eqScs : List Value → List Value → Option Bool
  | [], [] => some true
  | a :: as, b :: bs =>
    match eqSc a b, eqScs as bs with
    | some x, some y => some (x && y)
    | _, _ => none
  | _, _ => none
def eqKey : Value → Value → Option Bool
  | .agg xs, .agg ys => eqScs xs.toList ys.toList
  | a, b => eqSc a b
theorem eqSc_ok {a b : Value} {r : Bool} (h : eqSc a b = some r) : r = true ↔ a = b := by
  unfold eqSc at h
  split at h
  · cases h; simp
  · cases h; simp
  · cases h
    rename_i a b
    constructor
    · intro h
      have h := of_decide_eq_true h
      congr 1
      obtain ⟨a⟩ := a
      obtain ⟨b⟩ := b
      congr 1
      exact Array.ext' h
    · intro h
      cases h
      simp
  · cases h
theorem eqScs_ok : ∀ {as bs : List Value} {r : Bool}, eqScs as bs = some r → (r = true ↔ as = bs)
  | [], [], r, h => by cases h; simp
  | [], _ :: _, r, h => by simp [eqScs] at h
  | _ :: _, [], r, h => by simp [eqScs] at h
  | a :: as, b :: bs, r, h => by
    unfold eqScs at h
    split at h
    · rename_i x y hx hy
      cases h
      rw [Bool.and_eq_true, eqSc_ok hx, eqScs_ok hy, List.cons.injEq]
    · cases h
theorem eqKey_ok {a b : Value} {r : Bool} (h : eqKey a b = some r) : r = true ↔ a = b := by
  unfold eqKey at h
  split at h
  · rename_i xs ys
    rw [eqScs_ok h, Value.agg.injEq]
    exact ⟨fun h => Array.ext' h, fun h => by rw [h]⟩
  · exact eqSc_ok h

/-- Where a key stands. -/
def idxs (k : Value) : Nat → List (Value × PC) → Option (List Nat)
  | _, [] => some []
  | n, e :: es =>
    match eqKey k e.1, idxs k (n + 1) es with
    | some true, some L => some (n :: L)
    | some false, some L => some L
    | _, _ => none
theorem idxs_ok {k : Value} : ∀ {es : List (Value × PC)} {n : Nat} {L : List Nat}, idxs k n es = some L → (∀ m ∈ L, n ≤ m) ∧ ∀ (j : Nat) e, es[j]? = some e → (k = e.1 ↔ n + j ∈ L)
  | [], n, L, h => by cases h; simp
  | e :: es, n, L, h => by
    unfold idxs at h
    split at h
    · rename_i L' h1 h2
      cases h
      obtain ⟨i1, i2⟩ := idxs_ok h2
      refine ⟨fun m hm => ?_, fun j e' hj => ?_⟩
      · rcases List.mem_cons.1 hm with rfl | hm
        · exact Nat.le_refl _
        · have := i1 m hm; omega
      · cases j with
        | zero =>
          simp only [List.getElem?_cons_zero, Option.some.injEq] at hj
          subst hj
          simp [(eqKey_ok h1).1 rfl]
        | succ j =>
          have := i2 j e' (by simpa using hj)
          rw [this, List.mem_cons]
          constructor
          · intro hm; right; rw [show n + (j + 1) = n + 1 + j by omega]; exact hm
          · rintro (hm | hm)
            · omega
            · rw [show n + 1 + j = n + (j + 1) by omega]; exact hm
    · rename_i L' h1 h2
      cases h
      obtain ⟨i1, i2⟩ := idxs_ok h2
      refine ⟨fun m hm => by have := i1 m hm; omega, fun j e' hj => ?_⟩
      cases j with
      | zero =>
        simp only [List.getElem?_cons_zero, Option.some.injEq] at hj
        subst hj
        constructor
        · intro he
          have := (eqKey_ok h1).2 he
          cases this
        · intro hm
          have := i1 _ hm
          omega
      | succ j =>
        have := i2 j e' (by simpa using hj)
        rw [this, show n + (j + 1) = n + 1 + j by omega]
    · cases h

def keyedAll (P : Program) (kt : TypeId) (es : List (Value × PC)) : Bool := es.all fun e => (_root_.Go.keyOf P kt e.1).isSome
/-- Where a key stands in a map: none: nowhere. -/
def findK (P : Program) (kt : TypeId) (kv : Value) (es : List (Value × PC)) : Option (Option Nat) :=
  if (keyedB P kt && (_root_.Go.keyOf P kt kv).isSome && keyedAll P kt es) = true then
    match idxs kv 0 es with
    | some [] => some none
    | some [i] => some (some i)
    | _ => none
  else none

/-- The entries of a map. -/
def entsOf (H : Id → Option Blk) : PV → Option (List (Value × PC))
  | .one (.own j) =>
    match H j with
    | some (.mp _ es) => some es
    | _ => none
  | .one (.rmp _ ks ps) => if ks.length = ps.length then some (ks.zip ps) else none
  | _ => none
def vlookK (P : Program) (H : Id → Option Blk) (t : TypeId) (m k : Option PV) : Option (PC × Bool) :=
  match m.bind (entsOf H), k.bind keyA, P.underlying t with
  | some es, some kv, some (.map kt vt) =>
    match findK P kt kv es with
    | some (some i) => (es[i]?).map fun e => (e.2, true)
    | some none =>
      match zeroT P vt with
      | some z => if z.oneCell' = true then some (.c z, false) else none
      | none => none
    | none => none
  | _, _, _ => none

def oneP : PV → Option PC
  | .one p => some p
  | _ => none
def vmapUpdK (P : Program) (ρ : Operand → Option PV) (H : Id → Option Blk) (t : TypeId) (m k x : Operand) : Option (Id × Blk) :=
  match ρ m, (ρ k).bind keyA, P.underlying t, (ρ x).bind oneP with
  | some (.one (.own j)), some kv, some (.map kt _), some p =>
    match H j with
    | some (.mp mt es) =>
      match findK P kt kv es with
      | some none => some (j, .mp mt (es ++ [(kv, p)]))
      | some (some i) => some (j, .mp mt (es.set i (kv, p)))
      | none => none
    | _ => none
  | _, _, _, _ => none

section
variable {ρ : Operand → Option PV} {H : Id → Option Blk} {C : Ctx} {φ φ' : Id → Option Value} {F : Bool → Nat → Prop} {F0 F1 : Nat → Prop} {σ : St} {a : Act} {w w' : World} {P : Program} {i : Id} {p : PV} {ob : Option Blk}
variable {d : Option Tmp} {ty : TypeId} {pos : String} {af : Array Edge} {gd : Option (Nat × Bool)}

theorem valsOf_rep : ∀ {ps : List PC} {vs us : List Value}, valsOf ps = some vs → reps φ w F ps us → us = vs
  | [], vs, us, h, hr => by
    cases h
    simpa only [reps] using hr
  | p :: ps, vs, us, h, hr => by
    cases p with
    | c v =>
      simp only [valsOf] at h
      split at h
      · rename_i vs' hv
        cases h
        simp only [reps, rep] at hr
        obtain ⟨u, us', rfl, ⟨rfl, _⟩, hr⟩ := hr
        rw [valsOf_rep hv hr]
      · cases h
    | _ => simp [valsOf] at h
theorem keyA_rep {q : PV} {k x : Value} (h : keyA q = some k) (hr : repV φ w F q x) : x = k := by
  unfold keyA at h
  split at h
  · cases h
    simp only [repV, rep] at hr
    exact hr.1
  · split at h
    · rename_i vs hv
      cases h
      simp only [repV] at hr
      obtain ⟨us, rfl, hr⟩ := hr
      have := valsOf_rep hv hr
      rw [← this]
    · cases h
  · cases h

theorem findK_run (w0 : World) {kt : TypeId} {kv : Value} {es : List (Value × PC)} {ents : Array MapEntry} {r : Option Nat} (h : findK P kt kv es = some r) (hk : ents.toList.map (·.key) = es.map (·.1)) :
    (∀ w em, (Instr.checkKey em 10000 kt kv).run P w = .ok () w) ∧ (∀ w, (Instr.keyThatStays kv kv).run P w = .ok kv w) ∧
    match r with
    | none => ∀ w, (Instr.findKey kt kv ents.toList).run P w = .ok none w
    | some i => ∃ m, ents[i]? = some m ∧ m.key = kv ∧ ∀ w, (Instr.findKey kt kv ents.toList).run P w = .ok (some (i, m.val)) w := by
  unfold findK at h
  split at h
  · rename_i hc
    simp only [Bool.and_eq_true] at hc
    have K := keyedB_law hc.1.1
    obtain ⟨lx, hlx⟩ := Option.isSome_iff_exists.1 hc.1.2
    have hall : ∀ e ∈ ents.toList, ∃ l, _root_.Go.keyOf P kt e.key = some l := by
      intro e he
      have : e.key ∈ es.map (·.1) := by rw [← hk]; exact List.mem_map.2 ⟨e, he, rfl⟩
      obtain ⟨e', he', heq⟩ := List.mem_map.1 this
      have := List.all_eq_true.1 hc.2 e' he'
      rw [heq] at this
      exact Option.isSome_iff_exists.1 this
    refine ⟨fun w em => K.check w em hlx, fun w => K.stays w hlx, ?_⟩
    have at_ : ∀ (j : Nat) m, ents.toList[j]? = some m → ∃ e, es[j]? = some e ∧ e.1 = m.key := by
      intro j m hj
      have h1 : (ents.toList.map (·.key))[j]? = some m.key := by rw [List.getElem?_map, hj]; rfl
      rw [hk, List.getElem?_map] at h1
      obtain ⟨e, he, h2⟩ := Option.map_eq_some_iff.1 h1
      exact ⟨e, he, h2⟩
    split at h
    · rename_i hi
      cases h
      intro w
      rcases K.find w hlx ents.toList hall with ⟨h1, _⟩ | ⟨j, m, h1, h2, h3⟩
      · exact h1
      · obtain ⟨e, he, hee⟩ := at_ j m h2
        have := ((idxs_ok hi).2 j e he).1 (by rw [hee, h3])
        simp at this
    · rename_i i hi
      cases h
      have hi2 := (idxs_ok hi).2
      rcases K.find w0 hlx ents.toList hall with ⟨_, hne⟩ | ⟨j, m, _, h2, h3⟩
      · -- i is an index of an entry
        exfalso
        have hlen : i < es.length := by
          apply Classical.byContradiction
          intro hge
          have key : ∀ (es : List (Value × PC)) (n : Nat) (L : List Nat), idxs kv n es = some L → ∀ m ∈ L, m < n + es.length := by
            intro es
            induction es with
            | nil => intro n L h m hm; cases h; cases hm
            | cons e es ih =>
              intro n L h m hm
              unfold idxs at h
              split at h
              · rename_i L' h1 h2
                cases h
                rcases List.mem_cons.1 hm with rfl | hm
                · simp
                · have := ih _ _ h2 m hm; simp; omega
              · rename_i L' h1 h2
                cases h
                have := ih _ _ h2 m hm; simp; omega
              · cases h
          have := key es 0 [i] hi i (by simp)
          omega
        have hkeq := (hi2 i _ (List.getElem?_eq_getElem hlen)).2 (by simp)
        have hlen2 : ents.toList.length = es.length := by
          have := congrArg List.length hk
          simpa using this
        have hget : ents.toList[i]? = some (ents.toList[i]'(by omega)) := List.getElem?_eq_getElem (by omega)
        obtain ⟨e, he, hee⟩ := at_ i _ hget
        rw [List.getElem?_eq_getElem hlen] at he
        cases he
        exact hne (ents.toList[i]'(by omega)) (List.getElem_mem (by omega)) (by rw [← hee, ← hkeq])
      · obtain ⟨e, he, hee⟩ := at_ j m h2
        have hj := (hi2 j e he).1 (by rw [hee, h3])
        simp only [Nat.zero_add, List.mem_singleton] at hj
        subst hj
        refine ⟨m, by simpa using h2, h3, fun w => ?_⟩
        rcases K.find w hlx ents.toList hall with ⟨_, hne⟩ | ⟨j', m', h1, h2', h3'⟩
        · exact absurd h3 (hne m (List.mem_of_getElem? h2))
        · obtain ⟨e', he', hee'⟩ := at_ j' m' h2'
          have hj' := (hi2 j' e' he').1 (by rw [hee', h3'])
          simp only [Nat.zero_add, List.mem_singleton] at hj'
          subst hj'
          rw [h2] at h2'
          cases h2'
          exact h1
    · cases h
  · cases h

theorem entsOf_rep (h : RelX C φ F0 F1 σ a w) (V : View φ w (Fs F0 F1) a σ ρ H) {p : PV} {x : Value} {es : List (Value × PC)} (hr : repV φ w (Fs F0 F1) p x) (he : entsOf H p = some es) :
    ∃ g ents clock, x = .map (some g) ∧ w.heap[g]? = some (.map ents clock) ∧ ents.toList.map (·.key) = es.map (·.1) ∧ reps φ w (Fs F0 F1) (es.map (·.2)) (ents.toList.map (·.val)) := by
  unfold entsOf at he
  split at he
  · split at he
    · rename_i mt es' hH
      cases he
      simp only [repV, rep] at hr
      obtain ⟨g, ents, clock, hp, hheap, hkeys, hvals⟩ := h.heap _ _ (V.heap hH)
      exact ⟨g, ents, clock, Option.some.inj (hr.1.symm.trans hp), hheap, hkeys, hvals⟩
    · cases he
  · split at he
    · rename_i hl
      cases he
      simp only [repV, rep] at hr
      obtain ⟨g, ents, clock, hx, _, hh, hk, hrs⟩ := hr
      refine ⟨g, ents, clock, hx, hh, ?_, ?_⟩
      · rw [hk, List.map_fst_zip (by omega)]
      · rw [List.map_snd_zip (by omega)]; exact hrs
    · cases he
  · cases he

theorem vlookK_run (h : RelX C φ F0 F1 σ a w) (V : View φ w (Fs F0 F1) a σ ρ H) {t : TypeId} {m k : Operand} {ok : Bool} {x : PC × Bool} (hl : vlookK C.P H t (ρ m) (ρ k) = some x) :
    ∃ y, (execOp a.eval ⟨d, .lookup t m k ok, ty, pos, af, gd⟩).run C.P w = .ok (.value y) w ∧ repV φ w (Fs F0 F1) (if ok = true then .tup [.one x.1, .one (.c (.bool x.2))] else .one x.1) y := by
  unfold vlookK at hl
  split at hl
  · rename_i es kv kt vt hm hk hu
    obtain ⟨pm, hpm, hes⟩ := Option.bind_eq_some_iff.1 hm
    obtain ⟨pk, hpk, hkv⟩ := Option.bind_eq_some_iff.1 hk
    have hkr := keyA_rep hkv (V.ev hpk)
    obtain ⟨g, ents, clock, hme, hheap, hkeys, hvals⟩ := entsOf_rep h V (V.ev hpm) hes
    split at hl
    · rename_i i hf
      obtain ⟨e, he, rfl⟩ := Option.map_eq_some_iff.1 hl
      obtain ⟨hc, _, mm, hmm, hmk, hfr⟩ := findK_run w hf hkeys
      have hv : rep φ w (Fs F0 F1) e.2 mm.val := by
        have h1 : (es.map (·.2))[i]? = some e.2 := by rw [List.getElem?_map, he]; rfl
        obtain ⟨u, hu', hr⟩ := reps_get _ _ hvals i _ h1
        rw [List.getElem?_map] at hu'
        have : ents.toList[i]? = some mm := by simpa using hmm
        rw [this] at hu'
        cases hu'
        exact hr
      have hrun : (Instr.lookup t (a.eval m) (a.eval k) ok).run C.P w = .ok (if ok = true then .tuple #[mm.val, .bool true] else mm.val) w := by
        rw [hme, hkr]
        simp [Instr.lookup, run_underlying hu, Go.MapKept.run_getObj_map hheap, hc, hfr, Result.andThen]
      refine ⟨_, by simp [execOp, hrun, Result.andThen]; rfl, ?_⟩
      cases ok
      · simp only [Bool.false_eq_true, if_false, repV]; exact hv
      · simp only [if_true, repV, repVs]
        exact ⟨_, rfl, _, _, rfl, hv, _, _, rfl, by simp only [rep]; exact ⟨trivial, rfl⟩, rfl⟩
    · rename_i hf
      split at hl
      · rename_i z hz
        split at hl
        · rename_i hone
          cases hl
          obtain ⟨hc, _, hfr⟩ := findK_run w hf hkeys
          have hrun : (Instr.lookup t (a.eval m) (a.eval k) ok).run C.P w = .ok (if ok = true then .tuple #[z, .bool false] else z) w := by
            rw [hme, hkr]
            simp [Instr.lookup, run_underlying hu, Go.MapKept.run_getObj_map hheap, hc, hfr, run_zeroValue' hz, Result.andThen]
          refine ⟨_, by simp [execOp, hrun, Result.andThen]; rfl, ?_⟩
          cases ok
          · simp only [Bool.false_eq_true, if_false, repV, rep]; exact ⟨trivial, hone⟩
          · simp only [if_true, repV, repVs]
            exact ⟨_, rfl, _, _, rfl, by simp only [rep]; exact ⟨trivial, hone⟩, _, _, rfl, by simp only [rep]; exact ⟨trivial, rfl⟩, rfl⟩
        · cases hl
      · cases hl
    · cases hl
  · cases hl

theorem reps_set {p : PC} {v : Value} : ∀ {ps : List PC} {vs : List Value}, reps φ w F ps vs → rep φ w F p v → ∀ i, reps φ w F (ps.set i p) (vs.set i v)
  | [], vs, h, hp, i => by
    simp only [reps] at h
    subst h
    simp [reps]
  | q :: ps, vs, h, hp, i => by
    simp only [reps] at h
    obtain ⟨u, us, rfl, hu, h⟩ := h
    cases i with
    | zero => simp only [List.set, reps]; exact ⟨_, _, rfl, hp, h⟩
    | succ i => simp only [List.set, reps]; exact ⟨_, _, rfl, hu, reps_set h hp i⟩

theorem mapUpdK_run (h : RelX C φ F0 F1 σ a w) (V : View φ w (Fs F0 F1) a σ ρ H) {t : TypeId} {m k x : Operand} {i : Id} {b : Blk} (hv : vmapUpdK C.P ρ H t m k x = some (i, b)) :
    ∃ w', (Instr.mapUpdate t (a.eval m) (a.eval k) (a.eval x)).run C.P w = .ok () w' ∧ RelX C φ F0 F1 { σ with H := upd σ.H i (some b) } a w' := by
  unfold vmapUpdK at hv
  split at hv
  · rename_i j kv kt vt p hm hk hu hx
    obtain ⟨pk, hpk, hkv⟩ := Option.bind_eq_some_iff.1 hk
    obtain ⟨px, hpx, hxv⟩ := Option.bind_eq_some_iff.1 hx
    have hmr := V.ev hm
    have hkr := keyA_rep hkv (V.ev hpk)
    have hxr : rep φ w (Fs F0 F1) p (a.eval x) := by
      have := V.ev hpx
      unfold oneP at hxv
      split at hxv
      · cases hxv; simpa only [repV] using this
      · cases hxv
    simp only [repV, rep] at hmr
    split at hv
    · rename_i mt es hH
      have hHj := V.heap hH
      obtain ⟨g, ents, clock, hp, hheap, hkeys, hvals⟩ := h.heap _ _ hHj
      have hme : a.eval m = .map (some g) := Option.some.inj (hmr.1.symm.trans hp)
      obtain ⟨hg0, _, _⟩ := h.apart _ _ g (by rw [hHj]; simp) hp rfl
      have hne : ∀ t' k, Fs F0 F1 t' k → k ≠ g := by
        rintro t' k hk rfl
        exact hg0 (Fs_f0 h.sub t' k hk)
      split at hv
      · rename_i hf
        cases hv
        obtain ⟨hc, _, hfr⟩ := findK_run w hf hkeys
        refine ⟨{ w with heap := w.heap.setIfInBounds g (.map (ents.push { key := kv, val := a.eval x, born := clock }) (clock + 1)) }, ?_, ?_⟩
        · rw [hme, hkr]
          simp [Instr.mapUpdate, run_underlying hu, Go.MapKept.run_getObj_map hheap, hc, hfr, Go.MapKept.run_setObj_map _ hheap, Result.andThen]
        · have hset := Go.MapKept.heap_set (o' := .map (ents.push { key := kv, val := a.eval x, born := clock }) (clock + 1)) hheap
          refine h.write (by rw [hHj]; simp) hp rfl rfl rfl rfl (by simp) (fun k hk => hset.2 k hk) ⟨g, _, _, hp, hset.1, ?_, ?_⟩
          · simp [hkeys]
          · have hr := reps_append hvals (show reps φ w (Fs F0 F1) [p] [a.eval x] by simp only [reps]; exact ⟨_, _, rfl, hxr, rfl⟩)
            have := reps_mono (φ' := φ) (w' := { w with heap := w.heap.setIfInBounds g (.map (ents.push { key := kv, val := a.eval x, born := clock }) (clock + 1)) }) (F' := Fs F0 F1) (fun _ _ e => e) (fun t' k hk => hset.2 k (hne t' k hk)) (fun _ _ e => e) _ _ hr
            simpa using this
      · rename_i i hf
        cases hv
        obtain ⟨hc, hst, mm, hmm, hmk, hfr⟩ := findK_run w hf hkeys
        obtain ⟨hlt, hget⟩ := Array.getElem?_eq_some_iff.1 hmm
        refine ⟨{ w with heap := w.heap.setIfInBounds g (.map (ents.modify i fun e => { e with key := kv, val := a.eval x }) clock) }, ?_, ?_⟩
        · rw [hme, hkr]
          simp [Instr.mapUpdate, run_underlying hu, Go.MapKept.run_getObj_map hheap, hc, hfr, hmm, hmk, hst, Go.MapKept.run_setObj_map _ hheap, Result.andThen]
        · have hset := Go.MapKept.heap_set (o' := .map (ents.modify i fun e => { e with key := kv, val := a.eval x }) clock) hheap
          have hmod : (ents.modify i fun e => { e with key := kv, val := a.eval x }).toList = ents.toList.set i { ents[i] with key := kv, val := a.eval x } := by
            rw [Array.toList_modify, Go.ChangeMaps.modify_eq_set _ _ i ents[i] (by simp [hlt])]
          refine h.write (by rw [hHj]; simp) hp rfl rfl rfl rfl (by simp) (fun k hk => hset.2 k hk) ⟨g, _, _, hp, hset.1, ?_, ?_⟩
          · rw [hmod, List.map_set, List.map_set, hkeys]
          · rw [hmod, List.map_set, List.map_set]
            have hr := reps_set hvals hxr i
            exact reps_mono (φ' := φ) (w' := { w with heap := w.heap.setIfInBounds g (.map (ents.modify i fun e => { e with key := kv, val := a.eval x }) clock) }) (F' := Fs F0 F1) (fun _ _ e => e) (fun t' k hk => hset.2 k (hne t' k hk)) (fun _ _ e => e) _ _ hr
      · cases hv
    · cases hv
  · cases hv
end
end Go.Vm
