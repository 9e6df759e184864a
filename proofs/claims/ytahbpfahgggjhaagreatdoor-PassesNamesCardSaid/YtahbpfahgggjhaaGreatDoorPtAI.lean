/-
  Contracts of the library, and a run that is computed (PtAI). Conditions: each theorem's own premises. By an AI agent.
-/
import Derived.Test.YtahbpfahgggjhaaGreatDoorVmAH
import Derived.WalkKit
import Derived.Lib.Walk
import Derived.Lib.SliceRun
import Derived.Shelf.Small.Bits
import Derived.Shelf.Small.Wraps
import Derived.Shelf.Strconv.Atoi
import Derived.Shelf.Strconv.Itoa0
import Derived.Shelf.Strconv.Itoa1
import Derived.Shelf.LaysM
import Derived.Shelf.Strconv.Itoa2
import Derived.Shelf.Strconv.Itoa3
import Derived.Shelf.Strconv.AtoiErrFast
import Derived.Shelf.Strconv.ParseIntEmpty
import Derived.Shelf.Strconv.AtoiFail
import Derived.Shelf.Strconv.Clone
import Derived.Shelf.Strconv.SyntaxError
import Derived.Shelf.LaysC
import Derived.Shelf.Strconv.ToError
import Derived.Shelf.Strconv.AtoiErr
import Derived.Shelf.Strconv.ErrVar
import Derived.Shelf.Strconv.Lower
import Derived.Shelf.Strconv.ParseUint10
import Derived.Shelf.Strconv.ParseUint10Empty
import Derived.Shelf.Strconv.ParseUint10Any
import Derived.Shelf.Strconv.ParseInt10
import Derived.Shelf.Strconv.AtoiLong
import Derived.Shelf.Strconv.AtoiInnerAll
import Derived.Shelf.Strconv.RangeError
import Derived.Shelf.Strconv.ToErrorRange
import Derived.Shelf.Strconv.AtoiAll
import Derived.Shelf.Strconv.ErrVarAll
import Derived.Shelf.Strconv.ParseUintEmpty
import Derived.Shelf.Strconv.ParseUint10b64
import Derived.Shelf.Strconv.ParseUint10b32
import Derived.Shelf.Strconv.ParseUint10b16
import Derived.Shelf.Strconv.ParseUint10b8
import Derived.Shelf.Strconv.ParseUint10At
import Derived.Shelf.Strconv.ParseInt10At64
import Derived.Shelf.Strconv.ParseInt10At32
import Derived.Shelf.Strconv.ParseInt10At16
import Derived.Shelf.Strconv.ParseInt10At8
import Derived.Shelf.Strconv.ParseInt10All
import Derived.Shelf.Strings.Search1
import Derived.Shelf.Strings.Search2
import Derived.Shelf.Strings.Cut
import Derived.Shelf.Strings.Shaped
import Derived.Shelf.Sort.Plain
import Derived.Shelf.Bits.Mul64
import Derived.Shelf.Slices.Turned
import Derived.Ground.Names2Prog
import Derived.Shelf.Slices.Clone
import Derived.Shelf.Slices.CompactI
import Derived.Shelf.Slices.SearchI
import Derived.Shelf.Slices.Delete
import Derived.Shelf.Slices.Cells
import Derived.Shelf.Slices.In.SortNone
import Derived.Shelf.Slices.Empties
import Derived.Ground.SlgnProg
import Derived.Shelf.SlicesE.Clone
import Derived.Test.YtahbpfahgggjhaaGreatDoorProg
import Derived.Lib.ConvBytes
import Derived.Lib.AtoiAll
import Derived.Lib.SplitLaws
import Derived.Lib.AppendIntMem
import Derived.Test.YtahbpfahgggjhaaGreatDoorCards
import Derived.Test.YtahbpfahgggjhaaGreatDoorTie
import Derived.ProofKit
import Derived.OpenShut
import Derived.Deep.DeepHandedRow
import Derived.Deep.SlicePairs
import Derived.Deep.Strs
import Derived.Lib.LaidTab
import Derived.Lib.SmallJoins
import Derived.Carry
import Derived.Stop.LaidErr
import Derived.MakeChecks
import Derived.ChangeSame
section
namespace Go.Vm
open Go Go.RowKit
set_option linter.unusedVariables false

/-! ### Functions, computed -/
theorem pair_right {m : List (Id × Id)} (hn : (m.map (·.2)).Nodup) {i i' j : Id} (h1 : (i, j) ∈ m) (h2 : (i', j) ∈ m) : i = i' := by
  induction m with
  | nil => cases h1
  | cons c m ih =>
    simp only [List.map_cons, List.nodup_cons, List.mem_map, not_exists, not_and] at hn
    rcases List.mem_cons.1 h1 with e1 | e1 <;> rcases List.mem_cons.1 h2 with e2 | e2
    · rw [← e1] at e2; cases e2; rfl
    · exact absurd (by rw [← e1]) (hn.1 _ e2)
    · exact absurd (by rw [← e2]) (hn.1 _ e1)
    · exact ih hn.2 e1 e2
theorem pair_left {m : List (Id × Id)} (hn : (m.map (·.1)).Nodup) {i j j' : Id} (h1 : (i, j) ∈ m) (h2 : (i, j') ∈ m) : j = j' := by
  induction m with
  | nil => cases h1
  | cons c m ih =>
    simp only [List.map_cons, List.nodup_cons, List.mem_map, not_exists, not_and] at hn
    rcases List.mem_cons.1 h1 with e1 | e1 <;> rcases List.mem_cons.1 h2 with e2 | e2
    · rw [← e1] at e2; cases e2; rfl
    · exact absurd (by rw [← e1]) (hn.1 _ e2)
    · exact absurd (by rw [← e2]) (hn.1 _ e1)
    · exact ih hn.2 e1 e2

def PV.idT : PV → List Id
  | .tup vs => vs.flatMap PV.ids
  | p => p.ids
def numR : Nat → List Id → List (Id × Id)
  | _, [] => []
  | k, i :: l => (i, (0, k)) :: numR (k + 1) l
theorem numR_get : ∀ {l : List Id} {k j : Nat} {i : Id}, l[j]? = some i → (i, (0, k + j)) ∈ numR k l
  | [], k, j, i, h => by simp at h
  | a :: l, k, 0, i, h => by
    simp at h; subst h; simp [numR]
  | a :: l, k, j + 1, i, h => by
    have ih := numR_get (k := k + 1) (j := j) (l := l) (i := i) (by simpa using h)
    rw [show k + (j + 1) = k + 1 + j by omega]
    exact List.mem_cons_of_mem _ ih
def rnBs (s : S) (m : List (Id × Id)) : List Id → Option (List Blk)
  | [] => some []
  | i :: l =>
    match (getH s.H i).bind (rnB m), rnBs s m l with
    | some b, some l' => some (b :: l')
    | _, _ => none
theorem rnBs_get {s : S} {m : List (Id × Id)} : ∀ {l : List Id} {B : List Blk} {j : Nat} {b' : Blk}, rnBs s m l = some B → B[j]? = some b' → ∃ i b, l[j]? = some i ∧ getH s.H i = some b ∧ rnB m b = some b'
  | [], B, j, b', h, hb => by cases h; simp at hb
  | i :: l, B, j, b', h, hb => by
    unfold rnBs at h
    split at h
    · rename_i b0 l' h1 h2
      cases h
      cases j with
      | zero =>
        simp at hb; subst hb
        obtain ⟨b, hb1, hb2⟩ := Option.bind_eq_some_iff.1 h1
        exact ⟨i, b, by simp, hb1, hb2⟩
      | succ j =>
        obtain ⟨i', b, h3, h4, h5⟩ := rnBs_get (j := j) h2 (by simpa using hb)
        exact ⟨i', b, by simpa using h3, h4, h5⟩
    · cases h

def retS (P : Program) (rs : List ResultVar) (s : S) : Option (PV × List Blk) :=
  match resOf P s.abs rs with
  | some vs =>
    let M := reach (getH s.H) 1000000 (pack vs).idT []
    let m := numR 0 M
    match rnV m (pack vs), rnBs s m M with
    | some r, some B => if (nodupB (m.map (·.1)) && nodupB (m.map (·.2)) && m.all fun e => decide (e.2.1 = 0) && decide (e.2.2 < B.length)) = true then some (r, B) else none
    | _, _ => none
  | none => none
theorem retS_ok {P : Program} {rs : List ResultVar} {s : S} {r : PV} {B : List Blk} (h : retS P rs s = some (r, B)) : RetOk P rs r B s.abs := by
  unfold retS at h
  split at h
  · rename_i vs hv
    simp only at h
    split at h
    · rename_i r' B' h1 h2
      split at h
      · rename_i hc
        cases h
        rw [Bool.and_eq_true, Bool.and_eq_true] at hc
        refine ⟨vs, fun _ => False, fun i j => (i, j) ∈ _, hv, fun i i' j a b => pair_right (nodupB_ok hc.1.2) a b, fun i j j' a b => pair_left (nodupB_ok hc.1.1) a b, fun i j a => ?_, rnV_ok h1, fun j b' hb => ?_⟩
        · have := List.all_eq_true.1 hc.2 _ a
          simpa using this
        · obtain ⟨i, b, h3, h4, h5⟩ := rnBs_get h2 hb
          refine ⟨i, b, ?_, fun h => h, h4, rnB_ok h5⟩
          have := numR_get (k := 0) h3
          simpa using this
      · cases h
    · cases h
  · cases h

def argS : Nat → List PV → Option (Tr PV)
  | _, [] => some .leaf
  | k, p :: l =>
    match argS (k + 1) l with
    | some t => t.set 64 k (some p)
    | none => none
theorem argS_get : ∀ {l : List PV} {k : Nat} {t : Tr PV}, argS k l = some t → ∀ n, t.get n = if k ≤ n then l[n - k]? else none
  | [], k, t, h, n => by cases h; simp [Tr.get]
  | p :: l, k, t, h, n => by
    unfold argS at h
    split at h
    · rename_i t' ht
      rw [Tr.get_set h n, argS_get ht n]
      by_cases hn : n = k
      · subst hn; simp
      · rw [if_neg hn]
        by_cases hk : k ≤ n
        · rw [if_pos hk, if_pos (by omega), show n - k = (n - (k + 1)) + 1 by omega]; simp
        · rw [if_neg hk, if_neg (by omega)]
    · cases h
def evFun (P : Program) (cx : Cx) (io : Io) (n : Nat) (f : FuncId) (args : List PV) : Option (PV × List Blk) :=
  match P.funcs[f]? with
  | some fn =>
    match fn.body with
    | some c =>
      if ((!(fn.name == "runtime.NumGoroutine")) && decide (args.length ≤ fn.ntmps)) = true then
        match argS 0 args with
        | some t =>
          match evC P fn.ntmps cx io n c ⟨t, .leaf, .leaf, 1, false⟩ with
          | some (.normal, s') => retS P fn.results.toList s'
          | some (.ret, s') => retS P fn.results.toList s'
          | _ => none
        | none => none
      else none
    | none => none
  | none => none
theorem enter_eq {args : List PV} {t : Tr PV} (h : argS 0 args = some t) : (⟨t, .leaf, .leaf, 1, false⟩ : S).abs = St.enter args := by
  show (⟨t.get, getH .leaf, fun d => ((Tr.leaf : Tr Unit).get d).isSome, 1, fun _ => none⟩ : St) = _
  have e1 : t.get = fun t => args[t]? := by funext n; rw [argS_get h n]; simp
  have e2 : getH (.leaf : Tr (Tr Blk)) = fun _ => none := rfl
  rw [e1, e2]; rfl
theorem evFun_ok {P : Program} {gw : World} {gb : Nat} {cx : Cx} {io : Io} (hk : Knows P gw gb cx io) (hm : P.follows .mixedOrders = true) {n : Nat} {f : FuncId} {args : List PV} {r : PV} {B : List Blk}
    (h : evFun P cx io n f args = some (r, B)) : VCall P gw gb f args r B := by
  unfold evFun at h
  split at h
  · rename_i fn hf
    split at h
    · rename_i c hb
      split at h
      · rename_i hc
        rw [Bool.and_eq_true] at hc
        split at h
        · rename_i t ht
          refine vcall_of fn.results.toList hf hb (by simpa using hc.1) rfl rfl (by simpa using hc.2) fun C hP hnt hgw hgb _ => ?_
          have hk' : Knows C.P C.gw C.gb cx io := by rw [hP, hgw, hgb]; exact hk
          have hm' : C.P.follows .mixedOrders = true := by rw [hP]; exact hm
          rw [← enter_eq ht]
          split at h
          · rename_i s' hs
            exact evC_ok hk' hm' n c _ s' .normal _ (by rw [hP, hnt]; exact hs) (retS_ok h)
          · rename_i s' hs
            exact evC_ok hk' hm' n c _ s' .ret _ (by rw [hP, hnt]; exact hs) (retS_ok h)
          · cases h
        · cases h
      · cases h
    · cases h
  · cases h

/-! Calls that are handed blocks -/
def enterH : Nat → List Blk → Option (Tr (Tr Blk))
  | _, [] => some .leaf
  | k, b :: l =>
    match enterH (k + 1) l with
    | some t => setH t (0, k) (some b)
    | none => none
theorem enterH_get : ∀ {l : List Blk} {k : Nat} {t : Tr (Tr Blk)}, enterH k l = some t → ∀ i, getH t i = if i.1 = 0 ∧ k ≤ i.2 then l[i.2 - k]? else none
  | [], k, t, h, i => by
    cases h
    show (match (Tr.leaf : Tr (Tr Blk)).get i.1 with | some t => t.get i.2 | none => none) = _
    simp [Tr.get]
  | b :: l, k, t, h, i => by
    unfold enterH at h
    split at h
    · rename_i t' ht
      rw [getH_setH h]
      show (if i = (0, k) then some b else getH t' i) = _
      rw [enterH_get ht i]
      by_cases hi : i = (0, k)
      · subst hi; simp
      · rw [if_neg hi]
        by_cases h0 : i.1 = 0
        · by_cases hk : k ≤ i.2
          · have hne : i.2 ≠ k := fun e => hi (Prod.ext h0 e)
            have c1 : i.1 = 0 ∧ k + 1 ≤ i.2 := ⟨h0, by omega⟩
            have c2 : i.1 = 0 ∧ k ≤ i.2 := ⟨h0, hk⟩
            rw [if_pos c1, if_pos c2, show i.2 - k = (i.2 - (k + 1)) + 1 by omega]; simp
          · have c1 : ¬ (i.1 = 0 ∧ k + 1 ≤ i.2) := fun e => hk (by omega)
            have c2 : ¬ (i.1 = 0 ∧ k ≤ i.2) := fun e => hk e.2
            rw [if_neg c1, if_neg c2]
        · have c1 : ¬ (i.1 = 0 ∧ k + 1 ≤ i.2) := fun e => h0 e.1
          have c2 : ¬ (i.1 = 0 ∧ k ≤ i.2) := fun e => h0 e.1
          rw [if_neg c1, if_neg c2]
    · cases h
/-- The blocks that come back: those that were handed in keep their names. -/
def numIO (n : Nat) : Nat → List Id → List (Id × Id)
  | _, [] => []
  | k, i :: l => if i.1 = 0 ∧ i.2 < n then (i, i) :: numIO n k l else (i, (0, n + k)) :: numIO n (k + 1) l
def backB (s : S) (m : List (Id × Id)) (j : Id) : Option Blk :=
  match m.find? (fun e => decide (e.2 = j)) with
  | some e => (getH s.H e.1).bind (rnB m)
  | none => none
theorem backB_ok {s : S} {m : List (Id × Id)} {j : Id} {b' : Blk} (h : backB s m j = some b') : ∃ i b, (i, j) ∈ m ∧ getH s.H i = some b ∧ rnB m b = some b' := by
  unfold backB at h
  split at h
  · rename_i e he
    have h1 := List.mem_of_find?_eq_some he
    have h2 := List.find?_some he
    obtain ⟨b, hb1, hb2⟩ := Option.bind_eq_some_iff.1 h
    have h2 : e.2 = j := by simpa using h2
    exact ⟨e.1, b, by rw [← h2]; exact h1, hb1, hb2⟩
  · cases h
def retSIO (P : Program) (rs : List ResultVar) (n : Nat) (s : S) : Option (PV × List (Option Blk)) :=
  match resOf P s.abs rs with
  | some vs =>
    let M := reach (getH s.H) 1000000 (((List.range n).map fun k => (0, k)).filter (fun i => (getH s.H i).isSome) ++ (pack vs).idT) []
    let m := numIO n 0 M
    let B := (List.range (n + M.length)).map fun k => backB s m (0, k)
    match rnV m (pack vs) with
    | some r => if (nodupB (m.map (·.1)) && nodupB (m.map (·.2)) && m.all fun e => decide (e.2.1 = 0) && (B.getD e.2.2 none).isSome && (!decide (e.2.2 < n) || decide (e.1 = e.2))) = true then some (r, B) else none
    | none => none
  | none => none
theorem retSIO_ok {P : Program} {rs : List ResultVar} {n : Nat} {s : S} {r : PV} {B : List (Option Blk)} (h : retSIO P rs n s = some (r, B)) : RetOkIO P rs n r B s.abs ∧ n ≤ B.length := by
  unfold retSIO at h
  split at h
  · rename_i vs hv
    simp only at h
    split at h
    · rename_i r' h1
      split at h
      · rename_i hc
        cases h
        rw [Bool.and_eq_true, Bool.and_eq_true] at hc
        refine ⟨⟨vs, fun _ => False, fun i j => (i, j) ∈ _, hv, fun i i' j a b => pair_right (nodupB_ok hc.1.2) a b, fun i j j' a b => pair_left (nodupB_ok hc.1.1) a b, fun i j a => ?_, rnV_ok h1, fun j b' hb => ?_⟩, by simp⟩
        · have := List.all_eq_true.1 hc.2 _ a
          simp only [Bool.and_eq_true, decide_eq_true_eq, Bool.or_eq_true, Bool.not_eq_true', decide_eq_false_iff_not] at this
          refine ⟨this.1.1, ?_, fun hlt => this.2.resolve_left (fun hh => hh hlt)⟩
          have h2 := this.1.2
          rw [List.getD_eq_getElem?_getD] at h2
          cases hg : ((List.range (n + (reach (getH s.H) 1000000 (((List.range n).map fun k => (0, k)).filter (fun i => (getH s.H i).isSome) ++ (pack vs).idT) []).length)).map fun k => backB s (numIO n 0 (reach (getH s.H) 1000000 (((List.range n).map fun k => (0, k)).filter (fun i => (getH s.H i).isSome) ++ (pack vs).idT) [])) (0, k))[j.2]? with
          | none => rw [hg] at h2; cases h2
          | some o =>
            rw [hg] at h2
            cases o with
            | none => cases h2
            | some b => exact ⟨b, rfl⟩
        · rw [List.getElem?_map] at hb
          obtain ⟨k, hk, hb⟩ := Option.map_eq_some_iff.1 hb
          obtain ⟨hk1, hk2⟩ := List.getElem?_eq_some_iff.1 hk
          rw [List.getElem_range] at hk2
          subst hk2
          obtain ⟨i, b, h3, h4, h5⟩ := backB_ok hb
          exact ⟨i, b, h3, fun h => h, h4, rnB_ok h5⟩
      · cases h
    · cases h
  · cases h
def evFunIO (P : Program) (cx : Cx) (io : Io) (n : Nat) (f : FuncId) (args : List PV) (Hin : List Blk) : Option (PV × List (Option Blk)) :=
  match P.funcs[f]? with
  | some fn =>
    match fn.body with
    | some c =>
      if ((!(fn.name == "runtime.NumGoroutine")) && decide (args.length ≤ fn.ntmps)) = true then
        match argS 0 args, enterH 0 Hin with
        | some t, some H =>
          match evC P fn.ntmps cx io n c ⟨t, H, .leaf, 1, false⟩ with
          | some (.normal, s') => retSIO P fn.results.toList Hin.length s'
          | some (.ret, s') => retSIO P fn.results.toList Hin.length s'
          | _ => none
        | _, _ => none
      else none
    | none => none
  | none => none
theorem enterIO_eq {args : List PV} {Hin : List Blk} {t : Tr PV} {H : Tr (Tr Blk)} (h : argS 0 args = some t) (hH : enterH 0 Hin = some H) : (⟨t, H, .leaf, 1, false⟩ : S).abs = St.enterIO args Hin := by
  show (⟨t.get, getH H, fun d => ((Tr.leaf : Tr Unit).get d).isSome, 1, fun _ => none⟩ : St) = _
  have e1 : t.get = fun t => args[t]? := by funext n; rw [argS_get h n]; simp
  have e2 : getH H = fun i => if i.1 = 0 then Hin[i.2]? else none := by funext i; rw [enterH_get hH i]; simp
  rw [e1, e2]; rfl
theorem evFunIO_ok {P : Program} {gw : World} {gb : Nat} {cx : Cx} {io : Io} (hk : Knows P gw gb cx io) (hm : P.follows .mixedOrders = true) {n : Nat} {f : FuncId} {args : List PV} {Hin : List Blk} {r : PV} {B : List (Option Blk)}
    (h : evFunIO P cx io n f args Hin = some (r, B)) : VCallIO P gw gb f args Hin r B := by
  unfold evFunIO at h
  split at h
  · rename_i fn hf
    split at h
    · rename_i c hb
      split at h
      · rename_i hc
        rw [Bool.and_eq_true] at hc
        split at h
        · rename_i t H ht hH
          have hlen : Hin.length ≤ B.length := by
            split at h
            · exact (retSIO_ok h).2
            · exact (retSIO_ok h).2
            · cases h
          refine vcallIO_of fn.results.toList hf hb (by simpa using hc.1) rfl rfl (by simpa using hc.2) hlen fun C hP hnt hgw hgb => ?_
          have hk' : Knows C.P C.gw C.gb cx io := by rw [hP, hgw, hgb]; exact hk
          have hm' : C.P.follows .mixedOrders = true := by rw [hP]; exact hm
          rw [← enterIO_eq ht hH]
          split at h
          · rename_i s' hs
            exact evC_ok hk' hm' n c _ s' .normal _ (by rw [hP, hnt]; exact hs) (retSIO_ok h).1
          · rename_i s' hs
            exact evC_ok hk' hm' n c _ s' .ret _ (by rw [hP, hnt]; exact hs) (retSIO_ok h).1
          · cases h
        · cases h
      · cases h
    · cases h
  · cases h

/-! All calls, by their depth -/
def evAll (P : Program) (tab : Cx) (tio : Io) (n : Nat) : Nat → Cx × Io
  | 0 => (tab, tio)
  | k + 1 =>
    (fun f args => match tab f args with | some x => some x | none => evFun P (evAll P tab tio n k).1 (evAll P tab tio n k).2 n f args,
     ⟨fun f args Hin => match tio.run f args Hin with | some x => some x | none => evFunIO P (evAll P tab tio n k).1 (evAll P tab tio n k).2 n f args Hin, tio.md⟩)
theorem evAll_ok {P : Program} {gw : World} {gb : Nat} {tab : Cx} {tio : Io} (hk : Knows P gw gb tab tio) (hm : P.follows .mixedOrders = true) (n : Nat) : ∀ k, Knows P gw gb (evAll P tab tio n k).1 (evAll P tab tio n k).2
  | 0 => hk
  | k + 1 => by
    have ih := evAll_ok hk hm n k
    refine ⟨fun f args r B h => ?_, fun f args Hin r B h => ?_⟩
    · unfold evAll at h
      simp only at h
      split at h
      · rename_i x hx
        cases h
        exact hk.cx _ _ _ _ hx
      · exact evFun_ok ih hm h
    · unfold evAll at h
      simp only at h
      split at h
      · rename_i x hx
        cases h
        exact hk.io _ _ _ _ _ hx
      · exact evFunIO_ok ih hm h
end Go.Vm
end

section
namespace Go.Vm
open Go Go.RowKit Go.Shelf Go.Lib
set_option linter.unusedVariables false

/-! ### slices.Clone, over any type -/
def cloneFn (nm : String) (tg : Array TypeId) (t tb : TypeId) : Func :=
{ name := nm, origin := "slices.Clone", targs := tg,
  params := #[t], resultTypes := #[t], nfree := 0, ntmps := 8, results := #[ResultVar.tmp 2],
  body :=
    some
      (Code.seq
        (Code.region 0
          #[{ dst := some 2, op := Op.assign (Operand.const (Value.slice none 0 0)), type := t,
              pos := "slices.go:355", after := #[], guard := none }]
          false)
        (Code.seq
          (Code.seq
            (Code.region 1
              #[{ dst := some 3, op := Op.move (Operand.tmp 0), type := t, pos := "slices.go:357", after := #[],
                  guard := none },
                { dst := some 4,
                  op := Op.binOp BinOp.eql t (Operand.tmp 3) (Operand.const (Value.slice none 0 0)) t,
                  type := tb, pos := "slices.go:357", after := #[{ on := 0, ground := Ground.data }], guard := none }]
              false)
            (Code.cond (Operand.tmp 4)
              (Code.seq
                (Code.region 2
                  #[{ dst := some 2, op := Op.assign (Operand.const (Value.slice none 0 0)), type := t,
                      pos := "slices.go:358", after := #[], guard := none }]
                  false)
                Code.ret)
              Code.skip))
          (Code.seq
            (Code.region 3
              #[{ dst := some 5, op := Op.buildSlice t 0 #[], type := t, pos := "slices.go:362", after := #[],
                  guard := none },
                { dst := some 6, op := Op.move (Operand.tmp 0), type := t, pos := "slices.go:362", after := #[],
                  guard := none },
                { dst := some 7,
                  op :=
                    Op.call
                      { callee := Callee.builtin Builtin.append, args := #[Operand.tmp 5, Operand.tmp 6],
                        argTypes := #[t, t] },
                  type := t, pos := "slices.go:362",
                  after := #[{ on := 0, ground := Ground.data }, { on := 1, ground := Ground.data }],
                  guard := none },
                { dst := some 2, op := Op.assign (Operand.tmp 7), type := t, pos := "slices.go:362",
                  after :=
                    #[{ on := 2, ground := Ground.data }, { on := 2, ground := Ground.chain },
                      { on := 0, ground := Ground.phase }, { on := 1, ground := Ground.phase },
                      { on := 2, ground := Ground.phase }],
                  guard := none }]
              false)
            Code.ret))),
  norace := false, file := "slices/slices.go", endLine := 363, tmpNames := #["s", "s", "", "", "", "", "", ""] }

section
variable {P : Program} {f : FuncId} {nm : String} {tg : Array TypeId} {t tb e : TypeId} {i0 : TypeInfo} {zv : Value} {z by_ : Nat}
set_option maxHeartbeats 4000000 in
set_option maxRecDepth 100000 in
theorem clone_some (hf : P.funcs[f]? = some (cloneFn nm tg t tb)) (mixed : P.follows .mixedOrders = true) (ht : P.underlying t = some (.slice e)) (hi : P.info? e = some i0) (hz0 : i0.zero = some zv) (hz1 : i0.size = z) (hz2 : i0.bytes = by_) (hzs : zv.cells.size = z) (hzp : 0 < z)
    (ad : Addr) (n c : Nat) (news : List Value) (w : World) (hl : news.length = n * z) (hn : ∀ j u, news[j]? = some u → w.cell? (ad.add j) = some u) (h1 : ∀ u ∈ news, u.oneCell' = true) (hm : n ≤ maxLen) (hby : n * by_ ≤ 140737488355328) :
    Calls P f #[.slice (some ad) n c] w fun e' w' => ∃ v', e' = .returned v' ∧ w'.ownsRow w.heap.size e z v' n news ∧ Below w.heap.size w w' := by
  have q : ∀ (w : World) (a : Option Addr) (n c n' c' : Nat), (binOp .eql t (.slice a n c) (.slice none n' c')).run P w = .ok (.bool a.isNone) w := fun w a n c n' c' => Lib.run_eql_slice_nil w _ _ a n c n' c' ht
  have u : ∀ w, Sem.run P (underlying t) w = .ok (TypeDesc.slice e) w := run_underlying ht
  have s : ∀ w, Sem.run P (Go.sizeOf e) w = .ok z w := fun w => by simp [Go.sizeOf, typeInfo, hi, hz1]
  have A : Aside (∀ j u, news[j]? = some u → w.cell? (ad.add j) = some u) := hn
  clear hn
  have hnt : (cloneFn nm tg t tb).ntmps = 8 := rfl
  go_enter hf, hnt
  go_wp2_with (at_builtin; refine wpList_append_own _ rfl _ _ t rfl w.heap.size e i0 zv z by_ ht hi hz0 hz1 hz2 hzs hzp _ _ _ rfl (World.ownsRow_made w #[] 0 (Nat.le_refl _) (Nat.zero_le _) (by simp)) ad n c news rfl hl ?qc2 h1 (by simpa using hm) (by simpa using hby) (by simp) ?_)
  case qc2 =>
    intro j u hj
    refine Lib.cell?_alloc_some _ ?_
    exact A.out j u hj
  intro v' w1 hown hgrow hnil
  go_wp2
  go_ret
  refine ⟨v', rfl, by simpa using hown, ?_⟩
  exact ((Below.refl _ w).alloc (Nat.le_refl _) _).grown hgrow (by simp) (by intro k hk; simp [Value.ownBlock] at hk; omega)
set_option maxHeartbeats 4000000 in
set_option maxRecDepth 100000 in
theorem clone_zero (hf : P.funcs[f]? = some (cloneFn nm tg t tb)) (mixed : P.follows .mixedOrders = true) (ht : P.underlying t = some (.slice e)) (hi : P.info? e = some i0) (hz0 : i0.zero = some zv) (hz1 : i0.size = z) (hz2 : i0.bytes = by_) (hzs : zv.cells.size = z) (hzp : 0 < z)
    (ad : Addr) (c : Nat) (w : World) :
    Calls P f #[.slice (some ad) 0 c] w fun e' w' => ∃ v', e' = .returned v' ∧ w'.ownsRow w.heap.size e z v' 0 [] ∧ Below w.heap.size w w' :=
  clone_some hf mixed ht hi hz0 hz1 hz2 hzs hzp ad 0 c [] w (by simp) (by simp) (by simp) (Nat.zero_le _) (by simp)
set_option maxHeartbeats 4000000 in
set_option maxRecDepth 100000 in
theorem clone_nil (hf : P.funcs[f]? = some (cloneFn nm tg t tb)) (mixed : P.follows .mixedOrders = true) (ht : P.underlying t = some (.slice e)) (n c : Nat) (w : World) :
    Calls P f #[.slice none n c] w fun e' w' => e' = .returned (.slice none 0 0) ∧ w' = w := by
  have q : ∀ (w : World) (a : Option Addr) (n c n' c' : Nat), (binOp .eql t (.slice a n c) (.slice none n' c')).run P w = .ok (.bool a.isNone) w := fun w a n c n' c' => Lib.run_eql_slice_nil w _ _ a n c n' c' ht
  have hnt : (cloneFn nm tg t tb).ntmps = 8 := rfl
  go_enter hf, hnt
  go_wp2
  go_ret
  exact ⟨rfl, rfl⟩

/-- slices.Clone: a new row of the same elements. -/
theorem clone_call {gw : World} {gb : Nat} {n : Nat} {xs : List PC} {b : Bool} (hf : P.funcs[f]? = some (cloneFn nm tg t tb)) (hname : (nm == "runtime.NumGoroutine") = false) (mixed : P.follows .mixedOrders = true) (he : elemT P t = some e) (hs : szT P e = some z) (hby : bytesT P e = some by_) (hzv : zeroT P e = some zv) (hzs : zv.cells.size = z) (hzp : 0 < z)
    (hl : xs.length = n * z) (hm : n ≤ maxLen) (hlim : n * by_ ≤ 140737488355328) (hfr : PC.frees xs = true) :
    VCall P gw gb f [.one (.sl b n xs)] (.one (.own (0, 0))) [.arr e z n xs] := by
  have ht := elemT_spec he
  obtain ⟨i0, hi, hz1⟩ := Option.map_eq_some_iff.1 (show (P.info? e).map (·.size) = some z from hs)
  have hz2 : i0.bytes = by_ := by
    have : (P.info? e).map (·.bytes) = some by_ := hby
    rw [hi] at this; simpa using this
  have hz0 : i0.zero = some zv := by
    have : (P.info? e).bind (·.zero) = some zv := hzv
    rw [hi] at this; simpa using this
  refine ⟨⟨_, hf, hname, rfl⟩, fun w args F hgb hgl hlt hr => ?_⟩
  simp only [repVs, repV, rep] at hr
  obtain ⟨x, xs', hx, ⟨A, cap, rfl, hc, hrow⟩, rfl⟩ := hr
  obtain rfl : args = #[.slice A n cap] := by cases args; simp_all
  have fin : ∀ (v' : Value) (w' : World) (vs : List Value), w'.ownsRow w.heap.size e z v' n vs → Below w.heap.size w w' → reps (fun _ => none) w (Fs F fun _ => False) xs vs →
      ∃ (x : Value) (ψ : Id → Option Value) (X : Nat → Prop), Ending.returned v' = .returned x ∧ Below w.heap.size w w' ∧ (∀ g, X g → w.heap.size ≤ g ∧ g < w'.heap.size) ∧
      repV ψ w' (Fs (fun g => F g ∨ X g) X) (.one (.own (0, 0))) x ∧ (∀ (j : Nat) b, [Blk.arr e z n xs][j]? = some b → holds ψ w' (Fs (fun g => F g ∨ X g) X) (0, j) b) ∧ (∀ i, ψ i ≠ none → i.1 = 0) ∧
      (∀ j u g, ψ (0, j) = some u → blkOf u = some g → w.heap.size ≤ g ∧ ¬ X g) ∧
      (∀ j k u v g, ψ (0, j) = some u → ψ (0, k) = some v → blkOf u = some g → blkOf v = some g → j = k) := by
    intro v' w' vs ho hb hrs
    have hsl : isSl v' = true := by
      rcases ho.2 with ⟨rfl, _⟩ | ⟨g, cap, cur, rfl, _⟩ <;> rfl
    have hge : ∀ g, blkOf v' = some g → w.heap.size ≤ g := by
      intro g hg
      rcases ho.2 with ⟨rfl, _⟩ | ⟨g', cap, cur, rfl, hle, _⟩
      · cases hg
      · simp only [blkOf, Option.some.injEq] at hg; omega
    have ho0 : w'.ownsRow 0 e z v' n vs := ⟨ho.1, ho.2.imp id fun ⟨g, cap, cur, h1, h2, h3⟩ => ⟨g, cap, cur, h1, Nat.zero_le _, h3⟩⟩
    refine ⟨v', upd (fun _ => none) (0, 0) (some v'), fun _ => False, rfl, hb, fun g hg => hg.elim, ?_, fun j b hj => ?_, fun i hi => ?_, fun j u g hu hg => ?_, fun j k u v g hu hv _ _ => ?_⟩
    · simp only [repV, rep]
      exact ⟨upd_self _ _ _, hsl⟩
    · cases j with
      | succ j => simp at hj
      | zero =>
        simp only [List.getElem?_cons_zero, Option.some.injEq] at hj
        subst hj
        refine ⟨v', vs, upd_self _ _ _, ho0, ?_⟩
        refine free_reps (φ := fun _ => none) (fun t g hg => hg) _ _ hfr ?_
        refine reps_mono (fun _ _ h => by cases h) (fun t g hg => ?_) (fun t g hg => ?_) _ _ hrs
        · refine hb.block g ?_
          cases t
          · exact hlt g hg
          · exact hg.elim
        · cases t
          · exact .inl hg
          · exact hg.elim
    · by_cases h : i = (0, 0)
      · rw [h]
      · rw [upd_ne _ _ h] at hi; exact absurd rfl hi
    · by_cases h : j = 0
      · subst h
        rw [upd_self] at hu
        cases hu
        exact ⟨hge g hg, fun h => h⟩
      · rw [upd_ne _ _ (by simp [h])] at hu; cases hu
    · by_cases h : j = 0
      · by_cases h' : k = 0
        · rw [h, h']
        · rw [upd_ne _ _ (by simp [h'])] at hv; cases hv
      · rw [upd_ne _ _ (by simp [h])] at hu; cases hu
  cases A with
  | none =>
    have hn0 : n = 0 ∧ xs = [] := by
      rcases hrow with h | ⟨ad, h, _⟩
      · exact h
      · cases h
    obtain ⟨rfl, rfl⟩ := hn0
    refine (clone_nil hf mixed ht 0 cap w).mono fun e' w' he' => ?_
    obtain ⟨rfl, rfl⟩ := he'
    exact fin _ _ [] ⟨by simp, .inl ⟨rfl, rfl⟩⟩ (Below.refl _ _) (by simp only [reps])
  | some ad =>
    rcases hrow with ⟨rfl, rfl⟩ | ⟨ad', h, hF, hat⟩
    · refine (clone_zero hf mixed ht hi hz0 hz1 hz2 hzs hzp ad cap w).mono fun e' w' he' => ?_
      obtain ⟨v', rfl, ho, hb⟩ := he'
      exact fin _ _ [] ho hb (by simp only [reps])
    · cases h
      obtain ⟨vs, hvs, hcl⟩ := repAt_vals _ _ hat
      refine (clone_some hf mixed ht hi hz0 hz1 hz2 hzs hzp ad n cap vs w (by rw [reps_length _ _ hvs, hl]) hcl (reps_one _ _ hvs) hm hlim).mono fun e' w' he' => ?_
      obtain ⟨v', rfl, ho, hb⟩ := he'
      exact fin _ _ vs ho hb hvs
end
end Go.Vm
end

section
namespace Go.Vm
open Go Go.RowKit
set_option linter.unusedVariables false

/-! ### Tables of contracts for the evaluator -/
def TabOk (P : Program) (gw : World) (gb : Nat) (cx : Cx) : Prop := ∀ f args r B, cx f args = some (r, B) → VCall P gw gb f args r B
def orTab (a b : Cx) : Cx := fun f args => match a f args with | some x => some x | none => b f args
theorem orTab_ok {P : Program} {gw : World} {gb : Nat} {a b : Cx} (ha : TabOk P gw gb a) (hb : TabOk P gw gb b) : TabOk P gw gb (orTab a b) := by
  intro f args r B h
  unfold orTab at h
  split at h
  · rename_i x hx; cases h; exact ha _ _ _ _ hx
  · exact hb _ _ _ _ h
structure CloneE where
  f : FuncId
  e : TypeId
  z : Nat
  bytes : Nat
def CloneOk (P : Program) (x : CloneE) : Prop :=
  ∃ nm tg t tb, P.funcs[x.f]? = some (cloneFn nm tg t tb) ∧ (nm == "runtime.NumGoroutine") = false ∧ elemT P t = some x.e ∧ szT P x.e = some x.z ∧ bytesT P x.e = some x.bytes ∧ (zeroT P x.e).map (fun v => v.cells.size) = some x.z ∧ 0 < x.z
def cloneTab : List CloneE → Cx
  | [], _, _ => none
  | x :: L, f, args =>
    if x.f = f then
      match args with
      | [.one (.sl b n xs)] => if (xs.length == n * x.z && decide (n ≤ 140737488355328) && decide (n * x.bytes ≤ 140737488355328) && PC.frees xs) = true then some (.one (.own (0, 0)), [.arr x.e x.z n xs]) else none
      | _ => none
    else cloneTab L f args
theorem cloneTab_ok {P : Program} {gw : World} {gb : Nat} (mixed : P.follows .mixedOrders = true) : ∀ {L : List CloneE}, (∀ x ∈ L, CloneOk P x) → TabOk P gw gb (cloneTab L)
  | [], _ => fun f args r B h => by cases h
  | x :: L, hL => fun f args r B h => by
    unfold cloneTab at h
    split at h
    · rename_i hf
      split at h
      · rename_i b n xs
        split at h
        · rename_i hc
          cases h
          simp only [Bool.and_eq_true, beq_iff_eq, decide_eq_true_eq] at hc
          obtain ⟨nm, tg, t, tb, h1, h2, h3, h4, h5, h6, h8⟩ := hL x (by simp)
          obtain ⟨zv, h6, h7⟩ := Option.map_eq_some_iff.1 h6
          subst hf
          exact clone_call h1 h2 mixed h3 h4 h5 h6 h7 h8 hc.1.1.1 (by unfold maxLen; omega) hc.1.2 hc.2
        · cases h
      · cases h
    · exact cloneTab_ok mixed (fun y hy => hL y (by simp [hy])) _ _ _ _ h
end Go.Vm
end

section
namespace Go.Proofs
open Go.Shelf
def Tryz.laysM171_ren : Go.Shelf.Ren := ⟨fun | 171 => 41 | 243 => 77 | 246 => 117 | 283 => 141 | 284 => 142 | 285 => 143 | 286 => 144 | 129 => 163 | 317 => 162 | 318 => 164 | 319 => 165 | 320 => 166 | 337 => 185 | 338 => 186 | n => n, fun | 3 => 3 | 9 => 9 | 2 => 2 | 4 => 4 | 171 => 197 | 0 => 0 | 53 => 132 | 37 => 137 | 5 => 5 | 173 => 200 | 212 => 219 | 51 => 179 | 20 => 20 | 213 => 220 | 46 => 110 | 232 => 260 | 233 => 261 | n => n, fun | 17 => 3 | 18 => 4 | 19 => 5 | n => n⟩
theorem Tryz.laysM171 : Go.Proofs.LaysM.n171 Tryz.prog Tryz.laysM171_ren := {
  mixed := by kernel_rfl
  f129 := Tryz.func163.trans (congrArg some (by kernel_rfl))
  f171 := Tryz.func41.trans (congrArg some (by kernel_rfl))
  f243 := Tryz.func77.trans (congrArg some (by kernel_rfl))
  f246 := Tryz.func117.trans (congrArg some (by kernel_rfl))
  f283 := Tryz.func141.trans (congrArg some (by kernel_rfl))
  f284 := Tryz.func142.trans (congrArg some (by kernel_rfl))
  f285 := Tryz.func143.trans (congrArg some (by kernel_rfl))
  f286 := Tryz.func144.trans (congrArg some (by kernel_rfl))
  f317 := Tryz.func162.trans (congrArg some (by kernel_rfl))
  f318 := Tryz.func164.trans (congrArg some (by kernel_rfl))
  f319 := Tryz.func165.trans (congrArg some (by kernel_rfl))
  f320 := Tryz.func166.trans (congrArg some (by kernel_rfl))
  f337 := Tryz.func185.trans (congrArg some (by kernel_rfl))
  f338 := Tryz.func186.trans (congrArg some (by kernel_rfl))
  t0 := Tryz.underlying0
  a0 := Tryz.isAgg0
  z0 := Tryz.sizeOf0
  v0 := Tryz.zeroValue0
  t2 := Tryz.underlying2
  a2 := Tryz.isAgg2
  z2 := Tryz.sizeOf2
  v2 := Tryz.zeroValue2
  t3 := Tryz.underlying3
  a3 := Tryz.isAgg3
  z3 := Tryz.sizeOf3
  v3 := Tryz.zeroValue3
  t4 := Tryz.underlying4
  a4 := Tryz.isAgg4
  z4 := Tryz.sizeOf4
  v4 := Tryz.zeroValue4
  t5 := Tryz.underlying5
  a5 := Tryz.isAgg5
  z5 := Tryz.sizeOf5
  v5 := Tryz.zeroValue5
  t9 := Tryz.underlying9
  a9 := Tryz.isAgg9
  z9 := Tryz.sizeOf9
  v9 := Tryz.zeroValue9
  t20 := Tryz.underlying20
  a20 := Tryz.isAgg20
  z20 := Tryz.sizeOf20
  v20 := Tryz.zeroValue20
  t37 := Tryz.underlying137
  a37 := Tryz.isAgg137
  z37 := Tryz.sizeOf137
  v37 := Tryz.zeroValue137
  t46 := Tryz.underlying110
  a46 := Tryz.isAgg110
  z46 := Tryz.sizeOf110
  v46 := Tryz.zeroValue110
  t51 := Tryz.underlying179
  a51 := Tryz.isAgg179
  z51 := Tryz.sizeOf179
  v51 := Tryz.zeroValue179
  t53 := Tryz.underlying132
  a53 := Tryz.isAgg132
  z53 := Tryz.sizeOf132
  v53 := Tryz.zeroValue132
  t171 := Tryz.underlying197
  a171 := Tryz.isAgg197
  z171 := Tryz.sizeOf197
  v171 := Tryz.zeroValue197
  t173 := Tryz.underlying200
  a173 := Tryz.isAgg200
  z173 := Tryz.sizeOf200
  v173 := Tryz.zeroValue200
  t212 := Tryz.underlying219
  a212 := Tryz.isAgg219
  z212 := Tryz.sizeOf219
  v212 := Tryz.zeroValue219
  t213 := Tryz.underlying220
  a213 := Tryz.isAgg220
  z213 := Tryz.sizeOf220
  t232 := Tryz.underlying260
  a232 := Tryz.isAgg260
  z232 := Tryz.sizeOf260
  v232 := Tryz.zeroValue260
  t233 := Tryz.underlying261
  a233 := Tryz.isAgg261
  z233 := Tryz.sizeOf261
  v233 := Tryz.zeroValue261
  g17 := by kernel_rfl
  g18 := by kernel_rfl
  g19 := by kernel_rfl
  i0 := by kernel_rfl
  i2 := by kernel_rfl
  i3 := by kernel_rfl
  i4 := by kernel_rfl
  i5 := by kernel_rfl
  i9 := by kernel_rfl
  i20 := by kernel_rfl
  i37 := by kernel_rfl
  i46 := by kernel_rfl
  i51 := by kernel_rfl
  i53 := by kernel_rfl
  i171 := by kernel_rfl
  i173 := by kernel_rfl
  i212 := by kernel_rfl
  i232 := by kernel_rfl
  i233 := by kernel_rfl
  m17 := by kernel_rfl
  m18 := by kernel_rfl
  m19 := by kernel_rfl }
open Go.RowKit Go.Sort Go.Lib in
theorem Tryz.strconv_Itoa (n : Int) (h0 : -9223372036854775808 ≤ n) (h1 : n ≤ 9223372036854775807) (w : World) (htab : Lib.TabIs Tryz.prog w "internal/strconv.uint64pow10" .u64 Lib.pow10Tab) :
    Calls Tryz.prog 41 #[.int .i64 n] w fun e w' => e = .returned (.string ⟨(Lib.itoa n).toArray⟩) ∧ ∃ k os, w' = grow (w.drewN k) os := Any.strconv_Itoa Tryz.laysM171 n h0 h1 w htab
def Tryz.laysC172_ren : Go.Shelf.Ren := ⟨fun | 172 => 43 | 244 => 79 | 245 => 80 | 247 => 119 | 279 => 120 | 280 => 121 | 281 => 122 | 282 => 123 | 287 => 149 | 316 => 150 | 171 => 41 | 205 => 151 | 321 => 169 | 322 => 170 | 243 => 77 | 246 => 117 | 283 => 141 | 284 => 142 | 285 => 143 | 286 => 144 | 129 => 163 | 317 => 162 | 318 => 164 | 319 => 165 | 320 => 166 | 337 => 185 | 338 => 186 | n => n, fun | 9 => 9 | 3 => 3 | 75 => 68 | 76 => 69 | 4 => 4 | 5 => 5 | 167 => 172 | 37 => 137 | 0 => 0 | 85 => 173 | 2 => 2 | 168 => 175 | 53 => 132 | 175 => 203 | 46 => 110 | 210 => 207 | 127 => 223 | 145 => 226 | 143 => 224 | 21 => 21 | 171 => 197 | 173 => 200 | 212 => 219 | 51 => 179 | 20 => 20 | 213 => 220 | 232 => 260 | 233 => 261 | 80 => 313 | n => n, fun | 15 => 1 | 16 => 2 | 17 => 3 | 18 => 4 | 19 => 5 | n => n⟩
theorem Tryz.laysC172 : Go.Proofs.LaysC.n172 Tryz.prog Tryz.laysC172_ren := {
  mixed := by kernel_rfl
  f129 := Tryz.func163.trans (congrArg some (by kernel_rfl))
  f171 := Tryz.func41.trans (congrArg some (by kernel_rfl))
  f172 := Tryz.func43.trans (congrArg some (by kernel_rfl))
  f205 := Tryz.func151.trans (congrArg some (by kernel_rfl))
  f243 := Tryz.func77.trans (congrArg some (by kernel_rfl))
  f244 := Tryz.func79.trans (congrArg some (by kernel_rfl))
  f245 := Tryz.func80.trans (congrArg some (by kernel_rfl))
  f246 := Tryz.func117.trans (congrArg some (by kernel_rfl))
  f247 := Tryz.func119.trans (congrArg some (by kernel_rfl))
  f279 := Tryz.func120.trans (congrArg some (by kernel_rfl))
  f280 := Tryz.func121.trans (congrArg some (by kernel_rfl))
  f281 := Tryz.func122.trans (congrArg some (by kernel_rfl))
  f282 := Tryz.func123.trans (congrArg some (by kernel_rfl))
  f283 := Tryz.func141.trans (congrArg some (by kernel_rfl))
  f284 := Tryz.func142.trans (congrArg some (by kernel_rfl))
  f285 := Tryz.func143.trans (congrArg some (by kernel_rfl))
  f286 := Tryz.func144.trans (congrArg some (by kernel_rfl))
  f287 := Tryz.func149.trans (congrArg some (by kernel_rfl))
  f316 := Tryz.func150.trans (congrArg some (by kernel_rfl))
  f317 := Tryz.func162.trans (congrArg some (by kernel_rfl))
  f318 := Tryz.func164.trans (congrArg some (by kernel_rfl))
  f319 := Tryz.func165.trans (congrArg some (by kernel_rfl))
  f320 := Tryz.func166.trans (congrArg some (by kernel_rfl))
  f321 := Tryz.func169.trans (congrArg some (by kernel_rfl))
  f322 := Tryz.func170.trans (congrArg some (by kernel_rfl))
  f337 := Tryz.func185.trans (congrArg some (by kernel_rfl))
  f338 := Tryz.func186.trans (congrArg some (by kernel_rfl))
  t0 := Tryz.underlying0
  a0 := Tryz.isAgg0
  z0 := Tryz.sizeOf0
  v0 := Tryz.zeroValue0
  t2 := Tryz.underlying2
  a2 := Tryz.isAgg2
  z2 := Tryz.sizeOf2
  v2 := Tryz.zeroValue2
  t3 := Tryz.underlying3
  a3 := Tryz.isAgg3
  z3 := Tryz.sizeOf3
  v3 := Tryz.zeroValue3
  t4 := Tryz.underlying4
  a4 := Tryz.isAgg4
  z4 := Tryz.sizeOf4
  v4 := Tryz.zeroValue4
  t5 := Tryz.underlying5
  a5 := Tryz.isAgg5
  z5 := Tryz.sizeOf5
  v5 := Tryz.zeroValue5
  t9 := Tryz.underlying9
  a9 := Tryz.isAgg9
  z9 := Tryz.sizeOf9
  v9 := Tryz.zeroValue9
  t20 := Tryz.underlying20
  a20 := Tryz.isAgg20
  z20 := Tryz.sizeOf20
  v20 := Tryz.zeroValue20
  t21 := Tryz.underlying21
  a21 := Tryz.isAgg21
  z21 := Tryz.sizeOf21
  v21 := Tryz.zeroValue21
  t37 := Tryz.underlying137
  a37 := Tryz.isAgg137
  z37 := Tryz.sizeOf137
  v37 := Tryz.zeroValue137
  t46 := Tryz.underlying110
  a46 := Tryz.isAgg110
  z46 := Tryz.sizeOf110
  v46 := Tryz.zeroValue110
  t51 := Tryz.underlying179
  a51 := Tryz.isAgg179
  z51 := Tryz.sizeOf179
  v51 := Tryz.zeroValue179
  t53 := Tryz.underlying132
  a53 := Tryz.isAgg132
  z53 := Tryz.sizeOf132
  v53 := Tryz.zeroValue132
  t75 := Tryz.underlying68
  a75 := Tryz.isAgg68
  z75 := Tryz.sizeOf68
  v75 := Tryz.zeroValue68
  t76 := Tryz.underlying69
  a76 := Tryz.isAgg69
  z76 := Tryz.sizeOf69
  v76 := Tryz.zeroValue69
  t85 := Tryz.underlying173
  a85 := Tryz.isAgg173
  z85 := Tryz.sizeOf173
  v85 := Tryz.zeroValue173
  t127 := Tryz.underlying223
  a127 := Tryz.isAgg223
  z127 := Tryz.sizeOf223
  v127 := Tryz.zeroValue223
  t143 := Tryz.underlying224
  a143 := Tryz.isAgg224
  z143 := Tryz.sizeOf224
  v143 := Tryz.zeroValue224
  t145 := Tryz.underlying226
  a145 := Tryz.isAgg226
  z145 := Tryz.sizeOf226
  v145 := Tryz.zeroValue226
  t167 := Tryz.underlying172
  a167 := Tryz.isAgg172
  z167 := Tryz.sizeOf172
  v167 := Tryz.zeroValue172
  t168 := Tryz.underlying175
  a168 := Tryz.isAgg175
  z168 := Tryz.sizeOf175
  v168 := Tryz.zeroValue175
  t171 := Tryz.underlying197
  a171 := Tryz.isAgg197
  z171 := Tryz.sizeOf197
  v171 := Tryz.zeroValue197
  t173 := Tryz.underlying200
  a173 := Tryz.isAgg200
  z173 := Tryz.sizeOf200
  v173 := Tryz.zeroValue200
  t175 := Tryz.underlying203
  a175 := Tryz.isAgg203
  z175 := Tryz.sizeOf203
  v175 := Tryz.zeroValue203
  t210 := Tryz.underlying207
  a210 := Tryz.isAgg207
  z210 := Tryz.sizeOf207
  v210 := Tryz.zeroValue207
  t212 := Tryz.underlying219
  a212 := Tryz.isAgg219
  z212 := Tryz.sizeOf219
  v212 := Tryz.zeroValue219
  t213 := Tryz.underlying220
  a213 := Tryz.isAgg220
  z213 := Tryz.sizeOf220
  t232 := Tryz.underlying260
  a232 := Tryz.isAgg260
  z232 := Tryz.sizeOf260
  v232 := Tryz.zeroValue260
  t233 := Tryz.underlying261
  a233 := Tryz.isAgg261
  z233 := Tryz.sizeOf261
  v233 := Tryz.zeroValue261
  g15 := by kernel_rfl
  g16 := by kernel_rfl
  g17 := by kernel_rfl
  g18 := by kernel_rfl
  g19 := by kernel_rfl
  t80 := Tryz.underlying313
  a80 := Tryz.isAgg313
  z80 := Tryz.sizeOf313
  v80 := Tryz.zeroValue313
  i0 := by kernel_rfl
  i2 := by kernel_rfl
  i3 := by kernel_rfl
  i4 := by kernel_rfl
  i5 := by kernel_rfl
  i9 := by kernel_rfl
  i20 := by kernel_rfl
  i21 := by kernel_rfl
  i37 := by kernel_rfl
  i46 := by kernel_rfl
  i51 := by kernel_rfl
  i53 := by kernel_rfl
  i75 := by kernel_rfl
  i76 := by kernel_rfl
  i80 := by kernel_rfl
  i85 := by kernel_rfl
  i127 := by kernel_rfl
  i143 := by kernel_rfl
  i145 := by kernel_rfl
  i167 := by kernel_rfl
  i168 := by kernel_rfl
  i171 := by kernel_rfl
  i173 := by kernel_rfl
  i175 := by kernel_rfl
  i210 := by kernel_rfl
  i212 := by kernel_rfl
  i232 := by kernel_rfl
  i233 := by kernel_rfl
  m15 := by kernel_rfl
  m16 := by kernel_rfl
  m17 := by kernel_rfl
  m18 := by kernel_rfl
  m19 := by kernel_rfl
  c0 := by kernel_rfl
  c2 := by kernel_rfl
  c3 := by kernel_rfl
  c4 := by kernel_rfl
  c5 := by kernel_rfl
  c9 := by kernel_rfl
  c20 := by kernel_rfl
  c21 := by kernel_rfl
  c37 := by kernel_rfl
  c46 := by kernel_rfl
  c51 := by kernel_rfl
  c53 := by kernel_rfl
  c75 := by kernel_rfl
  c76 := by kernel_rfl
  c80 := by kernel_rfl
  c85 := by kernel_rfl
  c127 := by kernel_rfl
  c143 := by kernel_rfl
  c145 := by kernel_rfl
  c167 := by kernel_rfl
  c168 := by kernel_rfl
  c171 := by kernel_rfl
  c173 := by kernel_rfl
  c175 := by kernel_rfl
  c210 := by kernel_rfl
  c212 := by kernel_rfl
  c213 := by kernel_rfl
  c232 := by kernel_rfl
  c233 := by kernel_rfl }
open Go.RowKit in
theorem Tryz.strconv_Atoi_ok (s : ByteArray) (hmax : s.size ≤ 9223372036854775806) (v : Int) (h : Lib.atoiAll s.data.toList = .ok v) (w : World) :
    Calls Tryz.prog 43 #[.string s] w fun e w' => e = .returned (.tuple #[.int .i64 v, .nilIface]) ∧ (w' = w ∨ ∃ t, w' = Lib.bytesWorld w 5 t) := Any.strconv_Atoi_ok Tryz.laysC172 s hmax v h w
open Go.RowKit in
theorem Tryz.strconv_Atoi_range_var (s : ByteArray) (hlim : s.size ≤ 281474976710656) (h : Lib.atoiAll s.data.toList = .range) (tp : TypeId) (p : Value) (w : World) (hvar : w.var? Tryz.prog "strconv.ErrRange" = some #[.iface tp p]) :
    Calls Tryz.prog 43 #[.string s] w fun e w' => ∃ N, e = .returned (.tuple #[.int .i64 (Lib.atoiSat s.data.toList), .iface 175 (.pointer (some ⟨N, 0, none⟩))]) ∧ w.heap.size ≤ N ∧ w'.heap[N]? = some (.cells #[.string ⟨#[65, 116, 111, 105]⟩, .string s, .iface tp p] 207 (0, 0)) ∧ Below w.heap.size w w' := Any.strconv_Atoi_range_var Tryz.laysC172 s hlim h tp p w hvar
def Tryz.lays145_ren : Go.Shelf.Ren := ⟨fun | 145 => 42 | 220 => 78 | 219 => 118 | 217 => 145 | 225 => 146 | 224 => 147 | 267 => 148 | 266 => 167 | 314 => 168 | n => n, fun | 9 => 9 | 4 => 4 | 59 => 65 | 3 => 3 | 5 => 5 | 46 => 110 | 146 => 180 | 51 => 179 | n => n, fun | 1 => 0 | n => n⟩
theorem Tryz.lays145 : Go.Proofs.Lays.n145 Tryz.prog Tryz.lays145_ren := {
  mixed := by kernel_rfl
  f145 := Tryz.func42.trans (congrArg some (by kernel_rfl))
  f217 := Tryz.func145.trans (congrArg some (by kernel_rfl))
  f219 := Tryz.func118.trans (congrArg some (by kernel_rfl))
  f220 := Tryz.func78.trans (congrArg some (by kernel_rfl))
  f224 := Tryz.func147.trans (congrArg some (by kernel_rfl))
  f225 := Tryz.func146.trans (congrArg some (by kernel_rfl))
  f266 := Tryz.func167.trans (congrArg some (by kernel_rfl))
  f267 := Tryz.func148.trans (congrArg some (by kernel_rfl))
  f314 := Tryz.func168.trans (congrArg some (by kernel_rfl))
  t3 := Tryz.underlying3
  a3 := Tryz.isAgg3
  z3 := Tryz.sizeOf3
  v3 := Tryz.zeroValue3
  t4 := Tryz.underlying4
  a4 := Tryz.isAgg4
  z4 := Tryz.sizeOf4
  v4 := Tryz.zeroValue4
  t5 := Tryz.underlying5
  a5 := Tryz.isAgg5
  z5 := Tryz.sizeOf5
  v5 := Tryz.zeroValue5
  t9 := Tryz.underlying9
  a9 := Tryz.isAgg9
  z9 := Tryz.sizeOf9
  v9 := Tryz.zeroValue9
  t46 := Tryz.underlying110
  a46 := Tryz.isAgg110
  z46 := Tryz.sizeOf110
  v46 := Tryz.zeroValue110
  t51 := Tryz.underlying179
  a51 := Tryz.isAgg179
  z51 := Tryz.sizeOf179
  v51 := Tryz.zeroValue179
  t59 := Tryz.underlying65
  a59 := Tryz.isAgg65
  z59 := Tryz.sizeOf65
  v59 := Tryz.zeroValue65
  t146 := Tryz.underlying180
  a146 := Tryz.isAgg180
  z146 := Tryz.sizeOf180
  v146 := Tryz.zeroValue180
  g1 := by kernel_rfl }
open Go.RowKit Go.Lib in
theorem Tryz.strings_Cut (s sep : ByteArray) (m : Int) (w : World) (hs : s.size < 4294967281) (hm : w.cell? ⟨0, 0, none⟩ = some (.int .i64 m)) :
    Calls Tryz.prog 42 #[.string s, .string sep] w fun e w' => e = .returned (.tuple #[.string ⟨(Lib.cut s.data.toList sep.data.toList).1.toArray⟩, .string ⟨(Lib.cut s.data.toList sep.data.toList).2.1.toArray⟩, .bool (Lib.cut s.data.toList sep.data.toList).2.2]) ∧ ∃ n, w' = w.drewN n := Any.strings_Cut Tryz.lays145 s sep m w hs hm
def Tryz.laysM145_ren : Go.Shelf.Ren := ⟨fun | 145 => 42 | 220 => 78 | 219 => 118 | 217 => 145 | 225 => 146 | 224 => 147 | 267 => 148 | 266 => 167 | 314 => 168 | n => n, fun | 9 => 9 | 4 => 4 | 59 => 65 | 3 => 3 | 5 => 5 | 46 => 110 | 146 => 180 | 51 => 179 | n => n, fun | 1 => 0 | n => n⟩
theorem Tryz.laysM145 : Go.Proofs.LaysM.n145 Tryz.prog Tryz.laysM145_ren := {
  mixed := by kernel_rfl
  f145 := Tryz.func42.trans (congrArg some (by kernel_rfl))
  f217 := Tryz.func145.trans (congrArg some (by kernel_rfl))
  f219 := Tryz.func118.trans (congrArg some (by kernel_rfl))
  f220 := Tryz.func78.trans (congrArg some (by kernel_rfl))
  f224 := Tryz.func147.trans (congrArg some (by kernel_rfl))
  f225 := Tryz.func146.trans (congrArg some (by kernel_rfl))
  f266 := Tryz.func167.trans (congrArg some (by kernel_rfl))
  f267 := Tryz.func148.trans (congrArg some (by kernel_rfl))
  f314 := Tryz.func168.trans (congrArg some (by kernel_rfl))
  t3 := Tryz.underlying3
  a3 := Tryz.isAgg3
  z3 := Tryz.sizeOf3
  v3 := Tryz.zeroValue3
  t4 := Tryz.underlying4
  a4 := Tryz.isAgg4
  z4 := Tryz.sizeOf4
  v4 := Tryz.zeroValue4
  t5 := Tryz.underlying5
  a5 := Tryz.isAgg5
  z5 := Tryz.sizeOf5
  v5 := Tryz.zeroValue5
  t9 := Tryz.underlying9
  a9 := Tryz.isAgg9
  z9 := Tryz.sizeOf9
  v9 := Tryz.zeroValue9
  t46 := Tryz.underlying110
  a46 := Tryz.isAgg110
  z46 := Tryz.sizeOf110
  v46 := Tryz.zeroValue110
  t51 := Tryz.underlying179
  a51 := Tryz.isAgg179
  z51 := Tryz.sizeOf179
  v51 := Tryz.zeroValue179
  t59 := Tryz.underlying65
  a59 := Tryz.isAgg65
  z59 := Tryz.sizeOf65
  v59 := Tryz.zeroValue65
  t146 := Tryz.underlying180
  a146 := Tryz.isAgg180
  z146 := Tryz.sizeOf180
  v146 := Tryz.zeroValue180
  g1 := by kernel_rfl
  i3 := by kernel_rfl
  i4 := by kernel_rfl
  i5 := by kernel_rfl
  i9 := by kernel_rfl
  i46 := by kernel_rfl
  i51 := by kernel_rfl
  i59 := by kernel_rfl
  i146 := by kernel_rfl
  m1 := by kernel_rfl
  s1_3 := fun w h => Go.Proofs.cell_of_shapedOpen_int (zero := #[.int .i64 0]) (t := 3) h (of_decide_eq_true (by kernel_rfl)) (by kernel_rfl) rfl (by kernel_rfl) (by kernel_rfl) Tryz.underlying3 }
end Go.Proofs
end

section
namespace Go.Vm
open Go Go.RowKit Go.Proofs
set_option maxRecDepth 100000
set_option linter.unusedSimpArgs false
set_option linter.unusedVariables false

theorem callable_of {f : FuncId} {fn : Func} (h : Tryz.prog.funcs[f]? = some fn) (h1 : (fn.name == "runtime.NumGoroutine") = false) (h2 : fn.body.isNone = false) : Callable Tryz.prog f := ⟨fn, h, h1, h2⟩
structure Glob (gw : World) : Prop where
  pow10 : Lib.TabIs Tryz.prog gw "internal/strconv.uint64pow10" .u64 Lib.pow10Tab
  maxlen : ∃ m, gw.cell? ⟨0, 0, none⟩ = some (.int .i64 m)
  esyn : ∃ tp p, gw.var? Tryz.prog "strconv.ErrSyntax" = some #[.iface tp p]
  erange : ∃ tp p, gw.var? Tryz.prog "strconv.ErrRange" = some #[.iface tp p]

theorem var_alike {gw w : World} (ha : Alike gw gw.heap.size w) {name : String} {cs : Array Value} (h : gw.var? Tryz.prog name = some cs) : w.var? Tryz.prog name = some cs := by
  unfold World.var? at h ⊢
  obtain ⟨g, hg, hc⟩ := Option.bind_eq_some_iff.1 h
  rw [hg, Option.bind_some]
  have hlt : g < gw.heap.size := by
    apply Classical.byContradiction
    intro hge
    rw [Array.getElem?_eq_none (by omega)] at hc
    cases hc
  rw [ha.2 g hlt]
  exact hc
theorem cell_alike {gw w : World} (ha : Alike gw gw.heap.size w) {a : Addr} {v : Value} (h : gw.cell? a = some v) : w.cell? a = some v := by
  have hlt : a.block < gw.heap.size := by
    apply Classical.byContradiction
    intro hge
    unfold World.cell? at h
    rw [Array.getElem?_eq_none (by omega)] at h
    cases h
  rw [World.cell?_of_block (ha.2 a.block hlt)]
  exact h

def atoiV (t : ByteArray) : Int :=
  match Lib.atoiAll t.data.toList with
  | .ok v => v
  | .range => Lib.atoiSat t.data.toList
  | _ => 0
def atoiE (t : ByteArray) : PC :=
  match Lib.atoiAll t.data.toList with
  | .ok _ => .c .nilIface
  | _ => .ifc
theorem atoi_call (gw : World) (hg : Glob gw) (t : ByteArray) (ht : t.size ≤ 1000000) : VCall Tryz.prog gw gw.heap.size 43 [.one (.c (.string t))] (.tup [.one (.c (.int .i64 (atoiV t))), .one (atoiE t)]) [] := by
  refine vcall_plain (callable_of Tryz.func43 rfl rfl) [.string t] _ fun w hw => ?_
  unfold atoiV atoiE
  cases h : Lib.atoiAll t.data.toList with
  | ok v =>
    refine (Tryz.strconv_Atoi_ok t (by omega) v h w).mono fun e w' ⟨he, hb⟩ => ⟨_, he, ?_, fun F => ?_⟩
    · rcases hb with rfl | ⟨t', rfl⟩
      · exact Below.refl _ _
      · exact ⟨rfl, rfl, rfl, by rw [Lib.bytesWorld_size]; omega, fun k hk => Lib.bytesWorld_at_old w 5 t' k hk⟩
    · simp only [repV, repVs, rep]
      exact ⟨_, rfl, _, _, rfl, ⟨rfl, rfl⟩, _, _, rfl, ⟨rfl, rfl⟩, rfl⟩
  | range =>
    obtain ⟨tp, p, hv⟩ := hg.erange
    refine (Tryz.strconv_Atoi_range_var t (by omega) h tp p w (var_alike hw hv)).mono fun e w' ⟨N, he, _, _, hb⟩ => ⟨_, he, hb, fun F => ?_⟩
    simp only [repV, repVs, rep]
    exact ⟨_, rfl, _, _, rfl, ⟨rfl, rfl⟩, _, _, rfl, ⟨_, _, rfl⟩, rfl⟩
  | _ =>
    obtain ⟨tp, p, hv⟩ := hg.esyn
    refine (Any.strconv_Atoi_syntax_var Tryz.laysC172 t (by omega) h tp p w (var_alike hw hv)).mono fun e w' ⟨N, he, _, _, hb⟩ => ⟨_, he, hb, fun F => ?_⟩
    simp only [repV, repVs, rep]
    exact ⟨_, rfl, _, _, rfl, ⟨rfl, rfl⟩, _, _, rfl, ⟨_, _, rfl⟩, rfl⟩
def itoaB (n : Int) : ByteArray := bOf (Lib.itoa n)
theorem itoaG_call (gw : World) (hg : Glob gw) (n : Int) (h0 : -9223372036854775808 ≤ n) (h1 : n ≤ 9223372036854775807) : VCall Tryz.prog gw gw.heap.size 41 [.one (.c (.int .i64 n))] (.one (.c (.string (itoaB n)))) [] := by
  refine vcall_plain (callable_of Tryz.func41 rfl rfl) [.int .i64 n] _ fun w hw => ?_
  have htab : Lib.TabIs Tryz.prog w "internal/strconv.uint64pow10" .u64 Lib.pow10Tab := ?_
  · refine (Tryz.strconv_Itoa n h0 h1 w htab).mono fun e w' ⟨he, k, os, hw'⟩ => ⟨_, he, ?_, fun F => by simp only [repV, rep]; exact ⟨rfl, rfl⟩⟩
    rw [hw']
    exact Lib.below_grow _ w (Nat.le_refl _) k os
  · exact var_alike hw hg.pow10
def cutL (s sep : ByteArray) : ByteArray := bOf (Lib.cut s.data.toList sep.data.toList).1
def cutT (s sep : ByteArray) : ByteArray := bOf (Lib.cut s.data.toList sep.data.toList).2.1
theorem cutS_call (gw : World) (hg : Glob gw) (s sep : ByteArray) (hs : s.size ≤ 100000) : VCall Tryz.prog gw gw.heap.size 42 [.one (.c (.string s)), .one (.c (.string sep))] (.tup [.one (.c (.string (cutL s sep))), .one (.c (.string (cutT s sep))), .one (.c (.bool (Lib.cut s.data.toList sep.data.toList).2.2))]) [] := by
  obtain ⟨m, hm⟩ := hg.maxlen
  refine vcall_plain (callable_of Tryz.func42 rfl rfl) [.string s, .string sep] _ fun w hw => (Tryz.strings_Cut s sep m w (by omega) (cell_alike hw hm)).mono fun e w' ⟨he, n, hn⟩ => ⟨_, he, hn ▸ below_drewN' w n, fun F => ?_⟩
  simp only [repV, repVs, rep]
  exact ⟨_, rfl, _, _, rfl, ⟨rfl, rfl⟩, _, _, rfl, ⟨rfl, rfl⟩, _, _, rfl, ⟨rfl, rfl⟩, rfl⟩

/-- The library's functions, told by their contracts. -/
def libTab : Cx := fun f args =>
  if f = 42 then
    match args with
    | [.one (.c (.string s)), .one (.c (.string sep))] => if s.size ≤ 100000 then some (.tup [.one (.c (.string (cutL s sep))), .one (.c (.string (cutT s sep))), .one (.c (.bool (Lib.cut s.data.toList sep.data.toList).2.2))], []) else none
    | _ => none
  else if f = 43 then
    match args with
    | [.one (.c (.string t))] => if t.size ≤ 1000000 then some (.tup [.one (.c (.int .i64 (atoiV t))), .one (atoiE t)], []) else none
    | _ => none
  else if f = 41 then
    match args with
    | [.one (.c (.int .i64 n))] => if -9223372036854775808 ≤ n ∧ n ≤ 9223372036854775807 then some (.one (.c (.string (itoaB n))), []) else none
    | _ => none
  else none
theorem libTab_ok (gw : World) (hg : Glob gw) : TabOk Tryz.prog gw gw.heap.size libTab := by
  intro f args r B h
  unfold libTab at h
  split at h
  · rename_i hf
    subst hf
    split at h
    · split at h
      · cases h; exact cutS_call gw hg _ _ ‹_›
      · cases h
    · cases h
  · split at h
    · rename_i hf
      subst hf
      split at h
      · split at h
        · cases h; exact atoi_call gw hg _ ‹_›
        · cases h
      · cases h
    · split at h
      · rename_i hf
        subst hf
        split at h
        · split at h
          · rename_i hn; cases h; exact itoaG_call gw hg _ hn.1 hn.2
          · cases h
        · cases h
      · cases h
def clones : List CloneE := [⟨49, 82, 2, 16⟩, ⟨50, 85, 2, 16⟩, ⟨51, 3, 1, 8⟩, ⟨174, 28, 1, 24⟩]
theorem clones_ok : ∀ x ∈ clones, CloneOk Tryz.prog x := by
  intro x hx
  simp only [clones, List.mem_cons, List.not_mem_nil, or_false] at hx
  rcases hx with rfl | rfl | rfl | rfl
  · exact ⟨_, _, _, _, Tryz.func49, by decide, by kernel_rfl, by kernel_rfl, by kernel_rfl, by kernel_rfl, by decide⟩
  · exact ⟨_, _, _, _, Tryz.func50, by decide, by kernel_rfl, by kernel_rfl, by kernel_rfl, by kernel_rfl, by decide⟩
  · exact ⟨_, _, _, _, Tryz.func51, by decide, by kernel_rfl, by kernel_rfl, by kernel_rfl, by kernel_rfl, by decide⟩
  · exact ⟨_, _, _, _, Tryz.func174, by decide, by kernel_rfl, by kernel_rfl, by kernel_rfl, by kernel_rfl, by decide⟩
def seatTab : Cx := orTab libTab (cloneTab clones)
theorem mixed : Tryz.prog.follows .mixedOrders = true := by kernel_rfl
theorem seatTab_ok (gw : World) (hg : Glob gw) : TabOk Tryz.prog gw gw.heap.size seatTab := orTab_ok (libTab_ok gw hg) (cloneTab_ok mixed clones_ok)
/-- md: what is handed to which function (see the evaluator). -/
def seatIo (l : List FuncId) : Io := ⟨fun _ _ _ => none, fun f => if l.contains f then some true else none⟩
theorem seat_knows (gw : World) (hg : Glob gw) (l : List FuncId) : Knows Tryz.prog gw gw.heap.size seatTab (seatIo l) := ⟨seatTab_ok gw hg, fun f args Hin r B h => by cases h⟩
def isTrueR : Option (PV × List Blk) → Bool
  | some (.one (.c (.bool true)), []) => true
  | _ => false
theorem isTrueR_ok {x : Option (PV × List Blk)} (h : isTrueR x = true) : x = some (.one (.c (.bool true)), []) := by
  unfold isTrueR at h
  split at h
  · rfl
  · cases h
theorem closed_call (gw : World) (hg : Glob gw) (l : List FuncId) (n k : Nat) (f : FuncId) (h : isTrueR (evFun Tryz.prog (evAll Tryz.prog seatTab (seatIo l) n k).1 (evAll Tryz.prog seatTab (seatIo l) n k).2 n f []) = true) :
    VCall Tryz.prog gw gw.heap.size f [] (.one (.c (.bool true))) [] :=
  evFun_ok (evAll_ok (seat_knows gw hg l) mixed n k) mixed (isTrueR_ok h)
end Go.Vm
end

section
namespace Go.Proofs.YtahbpfahgggjhaaGreatDoor.rowsW
open Go.ChangeShapes Go.WideShapes Go.ChangeAt Go.RowKit Go.Vm Go.Shelf
open Go.ChangeMaps (open_string shut_string)
open Go.Joins
open Go.MakeChecks (laidMetH_plain)
open Go.Deep (oneCellFields open_slice1 open_slice_pairs choose_lt)
open Go.WideElems (Trod_stays)
set_option maxRecDepth 100000

section
variable {H : Type} {enc : TypeId × Value → H} {P : Program}
theorem post_of_below {f : Func} {s : ChangeSpec} {apart fresh handsOn again : Bool} {W W' : World} {args : Array Value} {v : Value} {ds gs : List (DataW H)} {before pa pv : List MemPlace}
    (hW : DataW.Whole enc P f.params.toList s.vars apart W args.toList ds gs before)
    (hres : ∀ (b : Nat) (sp : Nat → Bool) (hd : Bool), DataW.TrodAll enc P W' b sp hd f.resultTypes.toList (v.resultList f.resultTypes.size) (s.fn H (ds ++ gs)).results [])
    (hargs : ∀ sp : Nat → Bool, (∀ p ∈ before, sp p.block = true) → DataW.TrodAll enc P W' 0 sp true f.params.toList args.toList (s.fn H (ds ++ gs)).args pa)
    (hvars : ∀ sp : Nat → Bool, (∀ p ∈ before, sp p.block = true) → DataW.TrodVars enc P W' sp s.vars (s.fn H (ds ++ gs)).vars pv)
    (hps : before = pa ++ pv) (hb : Below W.heap.size W W')
    (hok : ∀ (j : Nat) (t : TypeId) (r : Value), f.resultTypes[j]? = some t → (v.resultList f.resultTypes.size)[j]? = some r → Value.okWide P W' .any 0 t r) :
    s.post enc P f apart fresh handsOn again W args v W' := by
  have hlt : ∀ p ∈ before, p.block < W.heap.size := fun p hp => hW.lt p hp
  have hold : ∀ p ∈ before, (fun b => decide (b < W.heap.size)) p.block = true := fun p hp => by simpa using hlt p hp
  refine ⟨ds, gs, before, [], pa, pv, hW, hres _ _ _, hargs _ hold, hvars _ hold, World.keptBut_mono (fun p hp => ⟨hp, ?_⟩) (hb.frame (· ∈ before)), fun _ => ?_⟩
  · rw [hps, List.mem_append] at hp
    exact Or.inr hp
  · obtain ⟨_, _, _, _, _, hz, hn⟩ := hW
    refine ⟨hok, _, _, ([] ++ pa) ++ pv, ⟨[] ++ pa, pv, trodAll_append (hargs _ (fun _ _ => rfl)) (hres _ _ _), hvars _ (fun _ _ => rfl), rfl, ?_, ?_⟩, ?_⟩
    · intro b off hp
      have hin : MemPlace.cell b off ∈ before := by rw [hps]; simpa using hp
      rw [hb.frozen (hlt _ hin)]
      exact hz b off hin
    · intro ha
      have := hn ha
      rw [hps] at this
      simpa using this
    · intro p hp _
      rw [hps]
      simpa using hp
end

theorem own : ownKnob Tryz.prog.godebug = none := by kernel_rfl
theorem gPow : Tryz.prog.globalNamed "internal/strconv.uint64pow10" = some 3 := by kernel_rfl
theorem gPowType : (Tryz.prog.globals[3]?).map (·.type) = some 219 := by kernel_rfl
theorem gES : Tryz.prog.globalNamed "strconv.ErrSyntax" = some 1 := by kernel_rfl
theorem gESType : (Tryz.prog.globals[1]?).map (·.type) = some 68 := by kernel_rfl
theorem gER : Tryz.prog.globalNamed "strconv.ErrRange" = some 2 := by kernel_rfl
theorem gERType : (Tryz.prog.globals[2]?).map (·.type) = some 68 := by kernel_rfl
theorem cellsA : Tryz.prog.cellsOf 219 = 20 := by kernel_rfl
theorem cellsU : Tryz.prog.cellsOf 132 = 1 := by kernel_rfl
theorem cellsE : Tryz.prog.cellsOf 226 = 1 := by kernel_rfl
theorem cellsS : Tryz.prog.cellsOf 9 = 1 := by kernel_rfl
theorem star : "*" ++ "errors.errorString" = "*errors.errorString" := by decide
theorem rowES (u : TypeId) (h : Tryz.prog.typeName? 3 u = some "*errors.errorString") : u = 224 :=
  typeName_ptr_named (nm := "errors.errorString") (by rw [star]; kernel_rfl) (by kernel_rfl) (by decide) u (by rw [star]; exact h)

theorem glob {W : World} (hL : laidMetH Tryz.prog Rows.passesNamesRow.laid W) (hS : W.ShapedOpen Tryz.prog) : Glob W := by
  have hL' : laidMet Tryz.prog Rows.passesNamesRow.laid W := by
    rw [← laidMetH_plain Tryz.prog Rows.passesNamesRow.laid W (by rfl)]; exact hL
  refine ⟨Lib.tabIs_of_head gPow gPowType Tryz.underlying219 Tryz.underlying132 cellsU cellsA hL'.tail.tail, Tryz.laysM145.s1_3 W hS, ?_, ?_⟩
  · obtain ⟨a, s, hv, _⟩ := laid_sentinel hL'.tail.tail.tail.tail gES gESType Tryz.underlying68 rowES Tryz.underlying224 Tryz.underlying226 rfl rfl Tryz.underlying9 cellsE cellsS
    exact ⟨_, _, hv⟩
  · obtain ⟨a, s, hv, _⟩ := laid_sentinel hL'.tail.tail.tail gER gERType Tryz.underlying68 rowES Tryz.underlying224 Tryz.underlying226 rfl rfl Tryz.underlying9 cellsE cellsS
    exact ⟨_, _, hv⟩

/-- A WORLD FOR THE WITNESS: the settled one, with the tables and the two sentinels as their initialisers lay them. -/
noncomputable def low : Nat := (World.holding Tryz.prog default ⟨#[], #[], []⟩).heap.size
abbrev synS : ByteArray := { data := #[105, 110, 118, 97, 108, 105, 100, 32, 115, 121, 110, 116, 97, 120] }
abbrev rngS : ByteArray := { data := #[118, 97, 108, 117, 101, 32, 111, 117, 116, 32, 111, 102, 32, 114, 97, 110, 103, 101] }
def tabCells (k : IntKind) : List (DataW Unit) → List Value
  | .lit (.int _ n) :: l => .int k n :: tabCells k l
  | .agg [.lit (.int _ m), .lit (.int _ n)] :: l => .int k m :: .int k n :: tabCells k l
  | _ => []
def cellsOfTab (k : IntKind) : DataW Unit → Array Value
  | .agg l => (tabCells k l).toArray
  | _ => #[]
noncomputable def laidWorld (os : Os) : World :=
  let w0 := World.holding Tryz.prog os ⟨#[.cells #[.string synS] 226, .cells #[.string rngS] 226], #[], []⟩
  { w0 with heap := (((((w0.heap.modify 4 fun
      | .cells _ t frozen => .cells (cellsOfTab .u8 Rows.laid_math_bits_deBruijn32tab) t frozen
      | o => o).modify 5 fun
      | .cells _ t frozen => .cells (cellsOfTab .u8 Rows.laid_math_bits_deBruijn64tab) t frozen
      | o => o).modify 3 fun
      | .cells _ t frozen => .cells (cellsOfTab .u64 Rows.laid_internal_strconv_uint64pow10) t frozen
      | o => o).modify 2 fun
      | .cells _ t frozen => .cells #[.iface 224 (.pointer (some ⟨low + 1, 0, none⟩))] t frozen
      | o => o).modify 1 fun
      | .cells _ t frozen => .cells #[.iface 224 (.pointer (some ⟨low, 0, none⟩))] t frozen
      | o => o) }
end Go.Proofs.YtahbpfahgggjhaaGreatDoor.rowsW
end

section
namespace Go.Vm
open Go Go.RowKit Go.Proofs
set_option maxRecDepth 1000000
theorem passesNames_call (gw : World) (hg : Glob gw) : VCall Tryz.prog gw gw.heap.size 3 [] (.one (.c (.bool true))) [] :=
  closed_call gw hg [109] 1000000 30 3 (by decide +kernel)
end Go.Vm
end
