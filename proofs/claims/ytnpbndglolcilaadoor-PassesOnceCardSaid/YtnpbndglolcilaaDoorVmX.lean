/-
  Abstract states over the model's worlds, and that a step of them is a step of the program: part X of a framework. Conditions: each theorem's own premises. By an AI agent.
-/
import Derived.Test.YtnpbndglolcilaaDoorVmW
namespace Go.Vm
open Go Go.RowKit
set_option linter.unusedVariables false

theorem upd_app {α β : Type} [DecidableEq α] (f : α → β) (i : α) (b : β) (j : α) : upd f i b j = if j = i then b else f j := rfl

theorem bindB_nil (s : Nat) (H : Id → Option Blk) : bindB s [] H = H := by funext i; simp [bindB]
theorem bindB_one (s : Nat) (b : Blk) (H : Id → Option Blk) : bindB s [b] H = upd H (s, 0) (some (b.ren s)) := by
  funext ⟨i1, i2⟩
  simp only [bindB, upd]
  by_cases h : i1 = s
  · subst h
    cases i2 with
    | zero => simp
    | succ i2 => simp
  · simp [h]

/-! ### States, told by lists -/
def lookF (t : Nat) : List (Nat × PV) → Option PV
  | [] => none
  | (k, p) :: l => if t = k then some p else lookF t l
def lookH (i : Id) : List (Id × Blk) → Option Blk
  | [] => none
  | (k, b) :: l => if i = k then some b else lookH i l
def inU (d : Nat) : List Nat → Bool
  | [] => false
  | k :: l => if d = k then true else inU d l

def St.of (fr : List (Nat × PV)) (H : List (Id × Blk)) (u : List Nat) : St := ⟨fun t => lookF t fr, fun i => lookH i H, fun d => inU d u, 0⟩

theorem lookF_mem {t : Nat} {p : PV} : ∀ {l : List (Nat × PV)}, lookF t l = some p → (t, p) ∈ l
  | [], h => by simp [lookF] at h
  | (k, q) :: l, h => by
    simp only [lookF] at h
    split at h
    · rename_i hk; subst hk; cases h; simp
    · exact List.mem_cons_of_mem _ (lookF_mem h)
theorem lookH_mem {i : Id} {b : Blk} : ∀ {l : List (Id × Blk)}, lookH i l = some b → (i, b) ∈ l
  | [], h => by simp [lookH] at h
  | (k, q) :: l, h => by
    simp only [lookH] at h
    split at h
    · rename_i hk; subst hk; cases h; simp
    · exact List.mem_cons_of_mem _ (lookH_mem h)
theorem inU_mem {d : Nat} : ∀ {l : List Nat}, d ∈ l → inU d l = true
  | k :: l, h => by
    simp only [inU]
    split
    · rfl
    · rename_i hk
      exact inU_mem ((List.mem_cons.1 h).resolve_left hk)

/-- Weaker, by names anew (m: old, new), some rows frozen (z). -/
theorem wk_conv {C : Ctx} {σ : St} (hfull : ∀ g, g < C.w0.heap.size → C.K0 g) (z : List Id) (m : List (Id × Id)) {fr : List (Nat × PV)} {H : List (Id × Blk)} {u : List Nat}
    (hm1 : (m.map (·.1)).Nodup) (hm2 : (m.map (·.2)).Nodup) (hu : ∀ e ∈ m, e.2.1 ∈ u)
    (hf : ∀ e ∈ fr, ∃ p, σ.fr e.1 = some p ∧ ConvV σ.H (· ∈ z) (fun i j => (i, j) ∈ m) p e.2)
    (hH : ∀ e ∈ H, ∃ i b, (i, e.1) ∈ m ∧ i ∉ z ∧ σ.H i = some b ∧ ConvB σ.H (· ∈ z) (fun i j => (i, j) ∈ m) b e.2) : Wk C σ (St.of fr H u) := by
  rintro a w ⟨φ, F0, F1, h⟩
  have i1 : ∀ {l : List (Id × Id)}, (l.map (·.2)).Nodup → ∀ i i' j, (i, j) ∈ l → (i', j) ∈ l → i = i' := by
    intro l
    induction l with
    | nil => intro _ i i' j h; simp at h
    | cons c l ih =>
      intro hn i i' j h1 h2
      simp only [List.map_cons, List.nodup_cons, List.mem_map, not_exists, not_and] at hn
      rcases List.mem_cons.1 h1 with e1 | e1 <;> rcases List.mem_cons.1 h2 with e2 | e2
      · rw [← e1] at e2; cases e2; rfl
      · exact absurd (by rw [← e1]) (hn.1 _ e2)
      · exact absurd (by rw [← e2]) (hn.1 _ e1)
      · exact ih hn.2 i i' j e1 e2
  have i2 : ∀ {l : List (Id × Id)}, (l.map (·.1)).Nodup → ∀ i j j', (i, j) ∈ l → (i, j') ∈ l → j = j' := by
    intro l
    induction l with
    | nil => intro _ i i' j h; simp at h
    | cons c l ih =>
      intro hn i j j' h1 h2
      simp only [List.map_cons, List.nodup_cons, List.mem_map, not_exists, not_and] at hn
      rcases List.mem_cons.1 h1 with e1 | e1 <;> rcases List.mem_cons.1 h2 with e2 | e2
      · rw [← e1] at e2; cases e2; rfl
      · exact absurd (by rw [← e1]) (hn.1 _ e2)
      · exact absurd (by rw [← e2]) (hn.1 _ e1)
      · exact ih hn.2 i j j' e1 e2
  obtain ⟨φ', F0', F1', hR, _⟩ := h.conv (τ := St.of fr H u) hfull (· ∈ z) (fun i j => (i, j) ∈ m) (i1 hm2) (i2 hm1) (fun t p hp => hf (t, p) (lookF_mem hp)) (fun j b hb => hH (j, b) (lookH_mem hb))
    (fun i j hg => .inr ⟨j.1, inU_mem (hu (i, j) hg), by simp [St.of]⟩)
  exact ⟨φ', F0', F1', hR⟩

section
variable {σ : St} {H : Id → Option Blk} {Z : Id → Prop} {G : Id → Id → Prop}
theorem hf_nil {P : (Nat × PV) → Prop} : ∀ e ∈ ([] : List (Nat × PV)), P e := by simp
theorem hf_cons {t : Nat} {q p : PV} {l : List (Nat × PV)} (h : σ.fr t = some p) (hc : ConvV H Z G p q) (hl : ∀ e ∈ l, ∃ p, σ.fr e.1 = some p ∧ ConvV H Z G p e.2) : ∀ e ∈ (t, q) :: l, ∃ p, σ.fr e.1 = some p ∧ ConvV H Z G p e.2 := by
  intro e he
  rcases List.mem_cons.1 he with rfl | he
  · exact ⟨p, h, hc⟩
  · exact hl e he
theorem hh_nil {P : (Id × Blk) → Prop} : ∀ e ∈ ([] : List (Id × Blk)), P e := by simp
theorem hh_cons {z : List Id} {m : List (Id × Id)} {i j : Id} {b c : Blk} {l : List (Id × Blk)} (hm : (i, j) ∈ m) (hz : i ∉ z) (hb : σ.H i = some b) (hc : ConvB H Z G b c)
    (hl : ∀ e ∈ l, ∃ i b, (i, e.1) ∈ m ∧ i ∉ z ∧ σ.H i = some b ∧ ConvB H Z G b e.2) : ∀ e ∈ (j, c) :: l, ∃ i b, (i, e.1) ∈ m ∧ i ∉ z ∧ σ.H i = some b ∧ ConvB H Z G b e.2 := by
  intro e he
  rcases List.mem_cons.1 he with rfl | he
  · exact ⟨i, b, hm, hz, hb, hc⟩
  · exact hl e he
theorem ConvB.free {b : Blk} (h : PC.frees b.cells = true) : ConvB H Z G b b := by
  cases b with
  | box ty cs => exact .box (ConvL.free h)
  | arr ty z n cs => exact .arr (ConvL.free h)
end

/-! ### Results that bear no names -/
theorem ConvV.self {H : Id → Option Blk} {Z : Id → Prop} {G : Id → Id → Prop} : ∀ {p : PV}, (match p with | .one p => p.free | .agg ps => PC.frees ps | _ => false) = true → ConvV H Z G p p
  | .one p, h => .one (.free h)
  | .agg ps, h => .agg (.free h)
  | .tup _, h => by cases h
  | .may _ _, h => by cases h
theorem ConvVs.self {H : Id → Option Blk} {Z : Id → Prop} {G : Id → Id → Prop} : ∀ {ps : List PV}, PV.frees ps = true → ConvVs H Z G ps ps
  | [], _ => .nil
  | p :: ps, h => by
    simp only [PV.frees, Bool.and_eq_true] at h
    refine .cons ?_ (ConvVs.self h.2)
    cases p with
    | one p => exact .one (.free h.1)
    | agg ps => exact .agg (.free h.1)
    | tup vs => simp [PV.free] at h
    | may b p => simp [PV.free] at h

theorem ret_free {P : Program} {rs : List ResultVar} {r : PV} {σ : St} {vs : List PV} (hv : resOf P σ rs = some vs) (hf : PV.frees vs = true) (hr : pack vs = r) : RetOk P rs r [] σ := by
  subst hr
  refine ⟨vs, fun _ => False, fun _ _ => False, hv, fun _ _ _ h => h.elim, fun _ _ _ h => h.elim, fun _ _ h => h.elim, ?_, by simp⟩
  match vs, hf with
  | [], _ => exact .tup .nil
  | [v], h =>
    simp only [PV.frees, Bool.and_true] at h
    refine ConvV.free h ?_
    rintro vs rfl
    simp [PV.free] at h
  | v :: v' :: vs, h => exact .tup (ConvVs.self h)

theorem splice_zero {α : Type} (xs : List α) : splice xs 0 [] = xs := by simp [splice]
theorem splice_step {α : Type} (x y : α) (xs ys : List α) : splice (x :: xs) 0 (y :: ys) = y :: splice xs 0 ys := by simp [splice, Nat.add_comm]
theorem splice_skip {α : Type} (x : α) (xs ys : List α) (k : Nat) : splice (x :: xs) (k + 1) ys = x :: splice xs k ys := by simp [splice, Nat.add_right_comm]

/-! ### Rows told by a list of anything -/
section
variable {α : Type} (l : List α) (f : α → PC) (g : α → List PC) (s : Nat) (H : Id → Option Blk) (k : Nat)
theorem rens_map : PC.rens s (l.map f) = l.map fun a => (f a).ren s := by induction l with | nil => rfl | cons a l ih => simp only [List.map_cons, PC.rens, ih]
theorem weaks_map : PC.weaks (l.map f) = l.map fun a => (f a).weak := by induction l with | nil => rfl | cons a l ih => simp only [List.map_cons, PC.weaks, ih]
theorem frees_map : PC.frees (l.map f) = l.all fun a => (f a).free := by induction l with | nil => rfl | cons a l ih => simp only [List.map_cons, PC.frees, List.all_cons, ih]
theorem stricts_map : PC.stricts (l.map f) = l.all fun a => (f a).strict := by induction l with | nil => rfl | cons a l ih => simp only [List.map_cons, PC.stricts, List.all_cons, ih]
theorem clo_map : (l.map f).map (clo H k) = l.map fun a => clo H k (f a) := by rw [List.map_map]; rfl
theorem all_tt : (l.all fun _ => true) = true := by induction l with | nil => rfl | cons a l ih => simp only [List.all_cons, ih, Bool.and_self]
theorem rens_append (a b : List PC) : PC.rens s (a ++ b) = PC.rens s a ++ PC.rens s b := by induction a with | nil => rfl | cons x a ih => simp only [List.cons_append, PC.rens, ih]
theorem weaks_append (a b : List PC) : PC.weaks (a ++ b) = PC.weaks a ++ PC.weaks b := by induction a with | nil => rfl | cons x a ih => simp only [List.cons_append, PC.weaks, ih]
theorem frees_append (a b : List PC) : PC.frees (a ++ b) = (PC.frees a && PC.frees b) := by induction a with | nil => rfl | cons x a ih => simp only [List.cons_append, PC.frees, ih, Bool.and_assoc]
theorem stricts_append (a b : List PC) : PC.stricts (a ++ b) = (PC.stricts a && PC.stricts b) := by induction a with | nil => rfl | cons x a ih => simp only [List.cons_append, PC.stricts, ih, Bool.and_assoc]
theorem rens_flatMap : PC.rens s (l.flatMap g) = l.flatMap fun a => PC.rens s (g a) := by induction l with | nil => rfl | cons a l ih => simp only [List.flatMap_cons, rens_append, ih]
theorem weaks_flatMap : PC.weaks (l.flatMap g) = l.flatMap fun a => PC.weaks (g a) := by induction l with | nil => rfl | cons a l ih => simp only [List.flatMap_cons, weaks_append, ih]
theorem frees_flatMap : PC.frees (l.flatMap g) = l.all fun a => PC.frees (g a) := by induction l with | nil => rfl | cons a l ih => simp only [List.flatMap_cons, frees_append, List.all_cons, ih]
theorem stricts_flatMap : PC.stricts (l.flatMap g) = l.all fun a => PC.stricts (g a) := by induction l with | nil => rfl | cons a l ih => simp only [List.flatMap_cons, stricts_append, List.all_cons, ih]
theorem clo_flatMap : (l.flatMap g).map (clo H k) = l.flatMap fun a => (g a).map (clo H k) := by induction l with | nil => rfl | cons a l ih => simp only [List.flatMap_cons, List.map_append, ih]
end

theorem ret_own {P : Program} {rs : List ResultVar} {σ : St} {i : Id} {b : Blk} (hv : resOf P σ rs = some [.one (.own i)]) (hH : σ.H i = some b) (hf : PC.frees b.cells = true) : RetOk P rs (.one (.own (0, 0))) [b] σ := by
  refine ⟨_, fun _ => False, fun j k => j = i ∧ k = (0, 0), hv, fun a a' j h h' => h.1.trans h'.1.symm, fun a j j' h h' => h.2.trans h'.2.symm, fun a j h => by simp [h.2], .one (.own ⟨rfl, rfl⟩), fun j b' hj => ?_⟩
  cases j with
  | succ j => simp at hj
  | zero =>
    simp only [List.getElem?_cons_zero, Option.some.injEq] at hj
    subst hj
    refine ⟨i, b, ⟨rfl, rfl⟩, id, hH, ?_⟩
    cases b with
    | box ty cs => exact .box (ConvL.free hf)
    | arr ty z n cs => exact .arr (ConvL.free hf)

theorem pickB_true (a b : Bool) : pickB true a b = a := rfl
theorem pickB_false (a b : Bool) : pickB false a b = b := rfl
theorem pickB_and (v a : Bool) : pickB v a false = (v && a) := by cases v <;> rfl
theorem pickB_or (v b : Bool) : pickB v true b = (v || b) := by cases v <;> rfl
theorem beq_true' (b : Bool) : (b == true) = b := by cases b <;> rfl
theorem beq_false' (b : Bool) : (b == false) = !b := by cases b <;> rfl

attribute [push_cast] List.getElem_toArray List.getElem_cons_zero List.getElem_cons_succ rowZ rens_map weaks_map frees_map stricts_map clo_map all_tt rens_append weaks_append frees_append stricts_append rens_flatMap weaks_flatMap frees_flatMap stricts_flatMap clo_flatMap List.map_append gcond unm mayK mayD mayAdd mayCall vpick boolOf pickB_true pickB_false pickB_and pickB_or Bool.not_true Bool.not_false Bool.not_or_self Bool.or_not_self Bool.true_or Bool.or_true Bool.false_or Bool.or_false Bool.true_and Bool.and_true beq_true' beq_false' eqScalar eqFieldsT vbinA vconv valK bytesOf isAggT elemT fieldT isBool placesT placeOf vfill List.getElem?_toArray Option.some.injEq
  seqRun opK vAddK mvK callK vAdd ev upd_app St.enter Option.map_some Option.map_none Option.bind_some Option.bind_none PV.cells Upd.fresh Upd.app cst List.getElem?_cons_zero List.getElem?_cons_succ List.getElem?_nil
  Option.getD_some Option.getD_none Nat.zero_add and_true true_and if_true if_false behind Blk.cells takeT callOf argsOf List.drop_zero List.drop_succ_cons List.length_cons List.length_nil Nat.le_refl List.take_succ_cons List.take_zero
  cloV clo List.map_cons List.map_nil List.append_nil List.nil_append List.cons_append PV.frees PV.free PC.frees PC.free PC.weak PC.weaks Bool.and_true Bool.true_and Bool.and_self Prod.mk.injEq asB asI asS vbin vbinI vbinS or_self or_false false_or true_or or_true St.called
  bindB_nil bindB_one PV.ren PC.ren PV.rens PC.rens Blk.ren shiftA vun vstore setB partsOf onesOf vlen lenOk vidx vapp baseOf newsOf kill vcut gslot gval dOk St.skip St.of lookF lookH inU resOf pack
  Bool.false_eq_true Nat.succ_ne_zero strictB PV.strict PV.stricts PC.strict PC.stricts splice_zero splice_step splice_skip
end Go.Vm
