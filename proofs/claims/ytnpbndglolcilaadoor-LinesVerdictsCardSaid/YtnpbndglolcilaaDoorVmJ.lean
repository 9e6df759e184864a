/-
  Abstract states over the model's worlds, and that a step of them is a step of the program: part J of a framework. Conditions: each theorem's own premises. By an AI agent.
-/
import Derived.Test.YtnpbndglolcilaaDoorVmI
import Derived.Deep.Draws
import Derived.Shelf.Strings.Builder1
section
namespace Go.Vm
open Go Go.RowKit
set_option linter.unusedVariables false

theorem upd_app {α β : Type} [DecidableEq α] (f : α → β) (i : α) (b : β) (j : α) : upd f i b j = if j = i then b else f j := rfl

theorem bindB_nil (s : Nat) (H : Id → Option Blk) : bindB s [] H = H := by funext i; simp [bindB]
theorem bindB_one (s : Nat) (b : Blk) (H : Id → Option Blk) : bindB s [b] H = upd H (s, 0) (some (b.ren s)) := by
  funext ⟨i1, i2⟩
  simp only [bindB, upd]
  by_cases h : i1 = s
  · subst h
    cases i2 with
    | zero => simp
    | succ i2 => simp
  · simp [h]

/-! ### States, told by lists -/
def lookF (t : Nat) : List (Nat × PV) → Option PV
  | [] => none
  | (k, p) :: l => if t = k then some p else lookF t l
def lookH (i : Id) : List (Id × Blk) → Option Blk
  | [] => none
  | (k, b) :: l => if i = k then some b else lookH i l
def inU (d : Nat) : List Nat → Bool
  | [] => false
  | k :: l => if d = k then true else inU d l

def St.of (fr : List (Nat × PV)) (H : List (Id × Blk)) (u : List Nat) : St := ⟨fun t => lookF t fr, fun i => lookH i H, fun d => inU d u, 1⟩

theorem lookF_mem {t : Nat} {p : PV} : ∀ {l : List (Nat × PV)}, lookF t l = some p → (t, p) ∈ l
  | [], h => by simp [lookF] at h
  | (k, q) :: l, h => by
    simp only [lookF] at h
    split at h
    · rename_i hk; subst hk; cases h; simp
    · exact List.mem_cons_of_mem _ (lookF_mem h)
theorem lookH_mem {i : Id} {b : Blk} : ∀ {l : List (Id × Blk)}, lookH i l = some b → (i, b) ∈ l
  | [], h => by simp [lookH] at h
  | (k, q) :: l, h => by
    simp only [lookH] at h
    split at h
    · rename_i hk; subst hk; cases h; simp
    · exact List.mem_cons_of_mem _ (lookH_mem h)
theorem inU_mem {d : Nat} : ∀ {l : List Nat}, d ∈ l → inU d l = true
  | k :: l, h => by
    simp only [inU]
    split
    · rfl
    · rename_i hk
      exact inU_mem ((List.mem_cons.1 h).resolve_left hk)

/-- Weaker, by names anew (m: old, new), some rows frozen (z). -/
theorem wk_conv {C : Ctx} {σ : St} (z : List Id) (m : List (Id × Id)) {fr : List (Nat × PV)} {H : List (Id × Blk)} {u : List Nat}
    (hm1 : (m.map (·.1)).Nodup) (hm2 : (m.map (·.2)).Nodup) (hu : ∀ e ∈ m, (e.2.1 = 0 ∧ e.1 = e.2) ∨ ∃ d ∈ u, e.2.1 = 1 + d)
    (hf : ∀ e ∈ fr, ∃ p, σ.fr e.1 = some p ∧ ConvV σ.H (· ∈ z) (fun i j => (i, j) ∈ m) p e.2)
    (hH : ∀ e ∈ H, ∃ i b, (i, e.1) ∈ m ∧ i ∉ z ∧ σ.H i = some b ∧ ConvB σ.H (· ∈ z) (fun i j => (i, j) ∈ m) b e.2) : Wk C σ (St.of fr H u) := by
  rintro a w ⟨φ, F0, F1, h⟩
  have i1 : ∀ {l : List (Id × Id)}, (l.map (·.2)).Nodup → ∀ i i' j, (i, j) ∈ l → (i', j) ∈ l → i = i' := by
    intro l
    induction l with
    | nil => intro _ i i' j h; simp at h
    | cons c l ih =>
      intro hn i i' j h1 h2
      simp only [List.map_cons, List.nodup_cons, List.mem_map, not_exists, not_and] at hn
      rcases List.mem_cons.1 h1 with e1 | e1 <;> rcases List.mem_cons.1 h2 with e2 | e2
      · rw [← e1] at e2; cases e2; rfl
      · exact absurd (by rw [← e1]) (hn.1 _ e2)
      · exact absurd (by rw [← e2]) (hn.1 _ e1)
      · exact ih hn.2 i i' j e1 e2
  have i2 : ∀ {l : List (Id × Id)}, (l.map (·.1)).Nodup → ∀ i j j', (i, j) ∈ l → (i, j') ∈ l → j = j' := by
    intro l
    induction l with
    | nil => intro _ i i' j h; simp at h
    | cons c l ih =>
      intro hn i j j' h1 h2
      simp only [List.map_cons, List.nodup_cons, List.mem_map, not_exists, not_and] at hn
      rcases List.mem_cons.1 h1 with e1 | e1 <;> rcases List.mem_cons.1 h2 with e2 | e2
      · rw [← e1] at e2; cases e2; rfl
      · exact absurd (by rw [← e1]) (hn.1 _ e2)
      · exact absurd (by rw [← e2]) (hn.1 _ e1)
      · exact ih hn.2 i j j' e1 e2
  obtain ⟨φ', F0', F1', hR, _⟩ := h.conv (τ := St.of fr H u) (· ∈ z) (fun i j => (i, j) ∈ m) (i1 hm2) (i2 hm1) (fun t p hp => hf (t, p) (lookF_mem hp)) (fun j b hb => hH (j, b) (lookH_mem hb))
    (fun i j hg => (hu (i, j) hg).elim (fun hh => .inl (by simp only [St.of]; have := hh.1; simp only at this; omega)) fun ⟨d, hd, hj⟩ => .inr ⟨d, inU_mem hd, hj⟩) (Nat.le_refl _) C.φi (fun i j u hg hj hu' => (hu (i, j) hg).elim (fun hh => by
      have e : i = j := hh.2
      subst e
      obtain ⟨i1, i2⟩ := i
      simp only at hj
      subst hj
      exact h.keep i2 u hu') fun ⟨d, _, he⟩ => (by simp only at he; omega))
  exact ⟨φ', F0', F1', hR⟩

section
variable {σ : St} {H : Id → Option Blk} {Z : Id → Prop} {G : Id → Id → Prop}
theorem hf_nil {P : (Nat × PV) → Prop} : ∀ e ∈ ([] : List (Nat × PV)), P e := by simp
theorem hf_cons {t : Nat} {q p : PV} {l : List (Nat × PV)} (h : σ.fr t = some p) (hc : ConvV H Z G p q) (hl : ∀ e ∈ l, ∃ p, σ.fr e.1 = some p ∧ ConvV H Z G p e.2) : ∀ e ∈ (t, q) :: l, ∃ p, σ.fr e.1 = some p ∧ ConvV H Z G p e.2 := by
  intro e he
  rcases List.mem_cons.1 he with rfl | he
  · exact ⟨p, h, hc⟩
  · exact hl e he
theorem hh_nil {P : (Id × Blk) → Prop} : ∀ e ∈ ([] : List (Id × Blk)), P e := by simp
theorem hh_cons {z : List Id} {m : List (Id × Id)} {i j : Id} {b c : Blk} {l : List (Id × Blk)} (hm : (i, j) ∈ m) (hz : i ∉ z) (hb : σ.H i = some b) (hc : ConvB H Z G b c)
    (hl : ∀ e ∈ l, ∃ i b, (i, e.1) ∈ m ∧ i ∉ z ∧ σ.H i = some b ∧ ConvB H Z G b e.2) : ∀ e ∈ (j, c) :: l, ∃ i b, (i, e.1) ∈ m ∧ i ∉ z ∧ σ.H i = some b ∧ ConvB H Z G b e.2 := by
  intro e he
  rcases List.mem_cons.1 he with rfl | he
  · exact ⟨i, b, hm, hz, hb, hc⟩
  · exact hl e he
theorem ConvB.free {b : Blk} (h : PC.frees b.cells = true) : ConvB H Z G b b := by
  cases b with
  | box ty cs => exact .box (ConvL.free h)
  | arr ty z n cs => exact .arr (ConvL.free h)
end

/-! ### Results that bear no names -/
theorem ConvV.self {H : Id → Option Blk} {Z : Id → Prop} {G : Id → Id → Prop} : ∀ {p : PV}, (match p with | .one p => p.free | .agg ps => PC.frees ps | _ => false) = true → ConvV H Z G p p
  | .one p, h => .one (.free h)
  | .agg ps, h => .agg (.free h)
  | .tup _, h => by cases h
  | .may _ _, h => by cases h
theorem ConvVs.self {H : Id → Option Blk} {Z : Id → Prop} {G : Id → Id → Prop} : ∀ {ps : List PV}, PV.frees ps = true → ConvVs H Z G ps ps
  | [], _ => .nil
  | p :: ps, h => by
    simp only [PV.frees, Bool.and_eq_true] at h
    refine .cons ?_ (ConvVs.self h.2)
    cases p with
    | one p => exact .one (.free h.1)
    | agg ps => exact .agg (.free h.1)
    | tup vs => simp [PV.free] at h
    | may b p => simp [PV.free] at h

theorem ret_free {P : Program} {rs : List ResultVar} {r : PV} {σ : St} {vs : List PV} (hv : resOf P σ rs = some vs) (hf : PV.frees vs = true) (hr : pack vs = r) : RetOk P rs r [] σ := by
  subst hr
  refine ⟨vs, fun _ => False, fun _ _ => False, hv, fun _ _ _ h => h.elim, fun _ _ _ h => h.elim, fun _ _ h => h.elim, ?_, by simp⟩
  match vs, hf with
  | [], _ => exact .tup .nil
  | [v], h =>
    simp only [PV.frees, Bool.and_true] at h
    refine ConvV.free h ?_
    rintro vs rfl
    simp [PV.free] at h
  | v :: v' :: vs, h => exact .tup (ConvVs.self h)

theorem splice_zero {α : Type} (xs : List α) : splice xs 0 [] = xs := by simp [splice]
theorem splice_step {α : Type} (x y : α) (xs ys : List α) : splice (x :: xs) 0 (y :: ys) = y :: splice xs 0 ys := by simp [splice, Nat.add_comm]
theorem splice_skip {α : Type} (x : α) (xs ys : List α) (k : Nat) : splice (x :: xs) (k + 1) ys = x :: splice xs k ys := by simp [splice, Nat.add_right_comm]

/-! ### Rows told by a list of anything -/
section
variable {α : Type} (l : List α) (f : α → PC) (g : α → List PC) (s : Nat) (H : Id → Option Blk) (k : Nat)
theorem rens_map : PC.rens s (l.map f) = l.map fun a => (f a).ren s := by induction l with | nil => rfl | cons a l ih => simp only [List.map_cons, PC.rens, ih]
theorem weaks_map : PC.weaks (l.map f) = l.map fun a => (f a).weak := by induction l with | nil => rfl | cons a l ih => simp only [List.map_cons, PC.weaks, ih]
theorem frees_map : PC.frees (l.map f) = l.all fun a => (f a).free := by induction l with | nil => rfl | cons a l ih => simp only [List.map_cons, PC.frees, List.all_cons, ih]
theorem stricts_map : PC.stricts (l.map f) = l.all fun a => (f a).strict := by induction l with | nil => rfl | cons a l ih => simp only [List.map_cons, PC.stricts, List.all_cons, ih]
theorem clo_map : (l.map f).map (clo H k) = l.map fun a => clo H k (f a) := by rw [List.map_map]; rfl
theorem all_tt : (l.all fun _ => true) = true := by induction l with | nil => rfl | cons a l ih => simp only [List.all_cons, ih, Bool.and_self]
theorem rens_append (a b : List PC) : PC.rens s (a ++ b) = PC.rens s a ++ PC.rens s b := by induction a with | nil => rfl | cons x a ih => simp only [List.cons_append, PC.rens, ih]
theorem weaks_append (a b : List PC) : PC.weaks (a ++ b) = PC.weaks a ++ PC.weaks b := by induction a with | nil => rfl | cons x a ih => simp only [List.cons_append, PC.weaks, ih]
theorem frees_append (a b : List PC) : PC.frees (a ++ b) = (PC.frees a && PC.frees b) := by induction a with | nil => rfl | cons x a ih => simp only [List.cons_append, PC.frees, ih, Bool.and_assoc]
theorem stricts_append (a b : List PC) : PC.stricts (a ++ b) = (PC.stricts a && PC.stricts b) := by induction a with | nil => rfl | cons x a ih => simp only [List.cons_append, PC.stricts, ih, Bool.and_assoc]
theorem rens_flatMap : PC.rens s (l.flatMap g) = l.flatMap fun a => PC.rens s (g a) := by induction l with | nil => rfl | cons a l ih => simp only [List.flatMap_cons, rens_append, ih]
theorem weaks_flatMap : PC.weaks (l.flatMap g) = l.flatMap fun a => PC.weaks (g a) := by induction l with | nil => rfl | cons a l ih => simp only [List.flatMap_cons, weaks_append, ih]
theorem frees_flatMap : PC.frees (l.flatMap g) = l.all fun a => PC.frees (g a) := by induction l with | nil => rfl | cons a l ih => simp only [List.flatMap_cons, frees_append, List.all_cons, ih]
theorem stricts_flatMap : PC.stricts (l.flatMap g) = l.all fun a => PC.stricts (g a) := by induction l with | nil => rfl | cons a l ih => simp only [List.flatMap_cons, stricts_append, List.all_cons, ih]
theorem iobs_map (M : List Id) : PC.iobs M s (l.map f) = l.map fun a => (f a).iob M s := by induction l with | nil => rfl | cons a l ih => simp only [List.map_cons, PC.iobs, ih]
theorem iocs_map (M : List Id) : PC.iocs M (l.map f) = l.map fun a => (f a).ioc M := by induction l with | nil => rfl | cons a l ih => simp only [List.map_cons, PC.iocs, ih]
theorem tag0s_map : PC.tag0s (l.map f) = l.all fun a => (f a).tag0 := by induction l with | nil => rfl | cons a l ih => simp only [List.map_cons, PC.tag0s, List.all_cons, ih]
theorem iobs_append (M : List Id) (a b : List PC) : PC.iobs M s (a ++ b) = PC.iobs M s a ++ PC.iobs M s b := by induction a with | nil => rfl | cons x a ih => simp only [List.cons_append, PC.iobs, ih]
theorem iocs_append (M : List Id) (a b : List PC) : PC.iocs M (a ++ b) = PC.iocs M a ++ PC.iocs M b := by induction a with | nil => rfl | cons x a ih => simp only [List.cons_append, PC.iocs, ih]
theorem tag0s_append (a b : List PC) : PC.tag0s (a ++ b) = (PC.tag0s a && PC.tag0s b) := by induction a with | nil => rfl | cons x a ih => simp only [List.cons_append, PC.tag0s, ih, Bool.and_assoc]
theorem iobs_flatMap (M : List Id) : PC.iobs M s (l.flatMap g) = l.flatMap fun a => PC.iobs M s (g a) := by induction l with | nil => rfl | cons a l ih => simp only [List.flatMap_cons, iobs_append, ih]
theorem iocs_flatMap (M : List Id) : PC.iocs M (l.flatMap g) = l.flatMap fun a => PC.iocs M (g a) := by induction l with | nil => rfl | cons a l ih => simp only [List.flatMap_cons, iocs_append, ih]
theorem tag0s_flatMap : PC.tag0s (l.flatMap g) = l.all fun a => PC.tag0s (g a) := by induction l with | nil => rfl | cons a l ih => simp only [List.flatMap_cons, tag0s_append, List.all_cons, ih]
theorem clo_flatMap : (l.flatMap g).map (clo H k) = l.flatMap fun a => (g a).map (clo H k) := by induction l with | nil => rfl | cons a l ih => simp only [List.flatMap_cons, List.map_append, ih]
end

theorem ret_own {P : Program} {rs : List ResultVar} {σ : St} {i : Id} {b : Blk} (hv : resOf P σ rs = some [.one (.own i)]) (hH : σ.H i = some b) (hf : PC.frees b.cells = true) : RetOk P rs (.one (.own (0, 0))) [b] σ := by
  refine ⟨_, fun _ => False, fun j k => j = i ∧ k = (0, 0), hv, fun a a' j h h' => h.1.trans h'.1.symm, fun a j j' h h' => h.2.trans h'.2.symm, fun a j h => by simp [h.2], .one (.own ⟨rfl, rfl⟩), fun j b' hj => ?_⟩
  cases j with
  | succ j => simp at hj
  | zero =>
    simp only [List.getElem?_cons_zero, Option.some.injEq] at hj
    subst hj
    refine ⟨i, b, ⟨rfl, rfl⟩, id, hH, ?_⟩
    cases b with
    | box ty cs => exact .box (ConvL.free hf)
    | arr ty z n cs => exact .arr (ConvL.free hf)

theorem pickB_true (a b : Bool) : pickB true a b = a := rfl
theorem pickB_false (a b : Bool) : pickB false a b = b := rfl
theorem pickB_and (v a : Bool) : pickB v a false = (v && a) := by cases v <;> rfl
theorem pickB_or (v b : Bool) : pickB v true b = (v || b) := by cases v <;> rfl
theorem beq_true' (b : Bool) : (b == true) = b := by cases b <;> rfl
theorem beq_false' (b : Bool) : (b == false) = !b := by cases b <;> rfl

attribute [push_cast] anyRunF finF frF HF maskF collectF chgAt reads Upd.chg Upd.v bchg Bool.and_false Bool.false_and Bool.not_not ne_eq not_false_eq_true hold1 hold2 hold3 Option.isSome_some Option.isSome_none Array.getInternal_eq_getElem List.all_cons List.all_nil Option.isNone_none Option.isNone_some beq_self_eq_true iobs_map iocs_map tag0s_map iobs_append iocs_append tag0s_append iobs_flatMap iocs_flatMap tag0s_flatMap vappS St.iod applyC ioChg outId PC.iob PC.iobs PV.iob PV.iobs Blk.iob PC.ioc PC.iocs PV.ioc Blk.ioc PC.tag0 PC.tag0s PV.tag0 tag0B strictBO nodup pos inId hide gets lowOf highOf vrow isNilC vnil List.getElem_toArray List.getElem_cons_zero List.getElem_cons_succ rowZ rens_map weaks_map frees_map stricts_map clo_map all_tt rens_append weaks_append frees_append stricts_append rens_flatMap weaks_flatMap frees_flatMap stricts_flatMap clo_flatMap List.map_append gcond unm mayK mayD mayAdd mayAddK mayRow mayRowK mayPickK mayCall vpick boolOf pickB_true pickB_false pickB_and pickB_or Bool.not_true Bool.not_false Bool.not_or_self Bool.or_not_self Bool.true_or Bool.or_true Bool.false_or Bool.or_false Bool.true_and Bool.and_true beq_true' beq_false' eqScalar eqFieldsT vbinA vconv valK bytesOf isAggT elemT fieldT isBool placesT placeOf vfill List.getElem?_toArray Option.some.injEq
  seqRun opK vAddK addK heapK mvK callK vAdd ev upd_app St.enter Option.map_some Option.map_none Option.bind_some Option.bind_none PV.cells Upd.fresh Upd.app cst List.getElem?_cons_zero List.getElem?_cons_succ List.getElem?_nil
  Option.getD_some Option.getD_none Nat.zero_add and_true true_and if_true if_false behind Blk.cells takeT callOf argsOf List.drop_zero List.drop_succ_cons List.length_cons List.length_nil Nat.le_refl List.take_succ_cons List.take_zero
  cloV clo List.map_cons List.map_nil List.append_nil List.nil_append List.cons_append PV.frees PV.free PC.frees PC.free PC.weak PC.weaks Bool.and_true Bool.true_and Bool.and_self Prod.mk.injEq asB asI asS vbin vbinI vbinS or_self or_false false_or true_or or_true St.called
  bindB_nil bindB_one PV.ren PC.ren PV.rens PC.rens Blk.ren shiftA vun vstore setB partsOf onesOf vlen lenOk vidx vapp baseOf newsOf kill vcut gslot gval dOk St.skip St.of lookF lookH inU resOf pack
  Bool.false_eq_true Nat.succ_ne_zero strictB PV.strict PV.stricts PC.strict PC.stricts splice_zero splice_step splice_skip
end Go.Vm
end

section
namespace Go.Vm
open Go Go.RowKit
set_option linter.unusedVariables false

/-! ### Contracts that the library gives -/
theorem below_drewN' (w : World) (n : Nat) : Below w.heap.size w (w.drewN n) := ⟨rfl, rfl, rfl, Nat.le_refl _, fun _ _ => rfl⟩

def Alike (gw : World) (gb : Nat) (w : World) : Prop := gb ≤ w.heap.size ∧ ∀ g, g < gb → w.heap[g]? = gw.heap[g]?

section
variable {P : Program} {gw : World} {gb : Nat} {f : FuncId} {φ : Id → Option Value} {w : World} {F : Bool → Nat → Prop}

theorem repVs_plain : ∀ (args : List Value) (xs : List Value), repVs φ w F (args.map fun v => .one (.c v)) xs → xs = args
  | [], xs, h => by simpa only [List.map_nil, repVs] using h
  | v :: args, xs, h => by
    simp only [List.map_cons, repVs, repV, rep] at h
    obtain ⟨x, xs', rfl, ⟨rfl, _⟩, h⟩ := h
    rw [repVs_plain args xs' h]

/-- A callee that takes scalars, and hands back what bears no names. -/
theorem vcall_plain (hc : Callable P f) (args : List Value) (r : PV) (h : ∀ w, Alike gw gb w → Calls P f args.toArray w fun e w' => ∃ x, e = .returned x ∧ Below w.heap.size w w' ∧ ∀ F, repV (fun _ => none) w' F r x) :
    VCall P gw gb f (args.map fun v => .one (.c v)) r [] := by
  refine ⟨hc, fun w xs F hgb hgl hlt hr => ?_⟩
  have hx := repVs_plain _ _ hr
  have hxs : xs = args.toArray := by rw [← hx]
  subst hxs
  refine (h w ⟨hgb, hgl⟩).mono fun e w' he => ?_
  obtain ⟨x, rfl, hb, hr'⟩ := he
  exact ⟨x, fun _ => none, fun _ => False, rfl, hb, fun g hg => hg.elim, hr' _, by simp, by simp, by simp, by simp⟩

/-- A row of scalars, as a callee gets it. -/
theorem row_of {t : Bool} {vs : List Value} {x : Value} (h : rep φ w F (.sl t vs.length (vs.map .c)) x) :
    (∃ b off cap, x = .slice (some ⟨b, off, none⟩) vs.length cap ∧ vs.length ≤ cap ∧ F t b ∧ ∀ j v, vs[j]? = some v → w.cell? ⟨b, off + j, none⟩ = some v) ∨ (vs = [] ∧ ∃ A cap, x = .slice A 0 cap) := by
  simp only [rep] at h
  obtain ⟨A, cap, rfl, hn, h⟩ := h
  rcases h with ⟨h0, _⟩ | ⟨ad, rfl, hF, hr⟩
  · exact .inr ⟨List.eq_nil_of_length_eq_zero h0, A, cap, by rw [h0]⟩
  · cases vs with
    | nil => exact .inr ⟨rfl, some ad, cap, rfl⟩
    | cons v vs =>
      obtain ⟨b, off, spot⟩ := ad
      have h0 := hr
      simp only [List.map_cons, repAt] at h0
      obtain ⟨⟨u, hu, _⟩, _⟩ := h0
      cases spot with
      | some s =>
        unfold World.cell? at hu
        split at hu <;> simp at hu
      | none =>
        refine .inl ⟨b, off, cap, rfl, hn, hF, fun j u hj => ?_⟩
        obtain ⟨y, hy, hry⟩ := repAt_get _ _ hr j (.c u) (by rw [List.getElem?_map, hj]; rfl)
        simp only [rep] at hry
        rw [hry.1] at hy
        rw [Addr.add_lit] at hy
        exact hy

/-- A callee that takes a row of scalars, then scalars. -/
theorem vcall_row (hc : Callable P f) (vs args : List Value) (r : PV)
    (h : ∀ w b off cap, Alike gw gb w → b < w.heap.size → vs.length ≤ cap → (∀ j v, vs[j]? = some v → w.cell? ⟨b, off + j, none⟩ = some v) →
      Calls P f (#[.slice (some ⟨b, off, none⟩) vs.length cap] ++ args.toArray) w fun e w' => ∃ x, e = .returned x ∧ Below w.heap.size w w' ∧ ∀ F, repV (fun _ => none) w' F r x)
    (h0 : vs = [] → ∀ w A cap, Alike gw gb w → Calls P f (#[.slice A 0 cap] ++ args.toArray) w fun e w' => ∃ x, e = .returned x ∧ Below w.heap.size w w' ∧ ∀ F, repV (fun _ => none) w' F r x) :
    VCall P gw gb f (.one (.sl false vs.length (vs.map .c)) :: args.map fun v => .one (.c v)) r [] := by
  refine ⟨hc, fun w xs F hgb hgl hlt hr => ?_⟩
  simp only [repVs, repV] at hr
  obtain ⟨x, xs', hx, hrow, hr⟩ := hr
  have hx' := repVs_plain _ _ hr
  subst hx'
  have hxs : xs = #[x] ++ xs'.toArray := by
    apply Array.toList_inj.1; rw [hx]; simp
  subst hxs
  have fin : ∀ (Q : Ending → World → Prop), (∀ e w', Q e w' → ∃ x, e = .returned x ∧ Below w.heap.size w w' ∧ ∀ F, repV (fun _ => none) w' F r x) → Calls P f (#[x] ++ xs'.toArray) w Q → Calls P f (#[x] ++ xs'.toArray) w fun e w' => ∃ (x : Value) (ψ : Id → Option Value) (X : Nat → Prop), e = .returned x ∧ Below w.heap.size w w' ∧ (∀ g, X g → w.heap.size ≤ g ∧ g < w'.heap.size) ∧
      repV ψ w' (Fs (fun g => F g ∨ X g) X) r x ∧ (∀ j b, ([] : List Blk)[j]? = some b → holds ψ w' (Fs (fun g => F g ∨ X g) X) (0, j) b) ∧ (∀ i, ψ i ≠ none → i.1 = 0) ∧
      (∀ j u g, ψ (0, j) = some u → blkOf u = some g → w.heap.size ≤ g ∧ ¬ X g) ∧
      (∀ j k u v g, ψ (0, j) = some u → ψ (0, k) = some v → blkOf u = some g → blkOf v = some g → j = k) := by
    intro Q hQ hc
    refine hc.mono fun e w' he => ?_
    obtain ⟨x, rfl, hb, hr'⟩ := hQ _ _ he
    exact ⟨x, fun _ => none, fun _ => False, rfl, hb, fun g hg => hg.elim, hr' _, by simp, by simp, by simp, by simp⟩
  rcases row_of hrow with ⟨b, off, cap, rfl, hcap, hF, hcell⟩ | ⟨hv, A, cap, rfl⟩
  · exact fin _ (fun _ _ h => h) (h w b off cap ⟨hgb, hgl⟩ (hlt b hF) hcap hcell)
  · exact fin _ (fun _ _ h => h) (h0 hv w A cap ⟨hgb, hgl⟩)
end
end Go.Vm
end

section
namespace Go.Vm
open Go Go.RowKit
set_option linter.unusedVariables false

/-! ### Calls that are handed blocks of the caller's own -/
def St.enterIO (args : List PV) (Hin : List Blk) : St := ⟨fun t => args[t]?, fun i => if i.1 = 0 then Hin[i.2]? else none, fun _ => false, 1⟩

def RetOkIO (P : Program) (rs : List ResultVar) (n : Nat) (r : PV) (B : List (Option Blk)) (σ : St) : Prop :=
  ∃ (vs : List PV) (Z : Id → Prop) (G : Id → Id → Prop), resOf P σ rs = some vs ∧ (∀ i i' j, G i j → G i' j → i = i') ∧ (∀ i j j', G i j → G i j' → j = j') ∧ (∀ i j, G i j → j.1 = 0 ∧ (∃ b, B[j.2]? = some (some b)) ∧ (j.2 < n → i = j)) ∧
    ConvV σ.H Z G (pack vs) r ∧ ∀ j b', B[j]? = some (some b') → ∃ i b, G i (0, j) ∧ ¬ Z i ∧ σ.H i = some b ∧ ConvB σ.H Z G b b'

def retIO (P : Program) (rs : List ResultVar) (n : Nat) (r : PV) (B : List (Option Blk)) : Post
  | .normal, σ => RetOkIO P rs n r B σ
  | .ret, σ => RetOkIO P rs n r B σ
  | _, _ => False

section
variable {C : Ctx} {φ φ' : Id → Option Value} {F : Bool → Nat → Prop} {F0 F1 : Nat → Prop} {σ τ : St} {a : Act} {w : World} {P : Program}

theorem vcallIO_of {gw : World} {gb : Nat} {f : FuncId} {fn : Func} {c : Code} {args : List PV} {Hin : List Blk} {r : PV} {B : List (Option Blk)} {n : Nat} (rs : List ResultVar) (hf : P.funcs[f]? = some fn) (hb : fn.body = some c) (hname : (fn.name == "runtime.NumGoroutine") = false) (hnt : fn.ntmps = n)
    (hrs : fn.results.toList = rs) (hn : args.length ≤ n) (hlen : Hin.length ≤ B.length)
    (h : ∀ C : Ctx, C.P = P → C.nt = n → C.gw = gw → C.gb = gb → vwp C c (retIO P rs Hin.length r B) (St.enterIO args Hin)) : VCallIO P gw gb f args Hin r B := by
  subst hnt hrs
  refine ⟨⟨fn, hf, hname, by simp [hb]⟩, hlen, fun w xs F φ0 hgb hgl hlt h0 hh hap hdom hinj hr => ?_⟩
  have hlt0 : ∀ j u g, φ0 (0, j) = some u → blkOf u = some g → g < w.heap.size := by
    intro j u g hu hg
    exact holds_lt (hh j _ (List.getElem?_eq_getElem (hdom j u hu))) hu hg
  have hinit : RelX ⟨P, fn.ntmps, w, fun g => g < w.heap.size ∧ ¬ Handed φ0 g, gw, gb, F, φ0⟩ φ0 F (fun _ => False) (St.enterIO args Hin) { tmps := xs ++ Array.replicate (fn.ntmps - xs.size) undef, defers := [] } w := by
    have hl := repVs_len _ _ hr
    have hg := repVs_get _ _ hr
    have hs : xs.size = args.length := by simpa using hl
    have hz : ∀ (i : Id) u, φ0 i = some u → ∃ j, i = (0, j) := by
      rintro ⟨i1, i2⟩ u hu
      have := h0 (i1, i2) (by rw [hu]; simp)
      simp only at this
      subst this
      exact ⟨i2, rfl⟩
    refine ⟨?_, rfl, fun t p hp => ?_, fun i b hi => ?_, fun i j u v g _ _ hu hv hg hg' => ?_, fun i u g _ hu hg => ?_, fun g hg => hg.elim, fun g hg => .inl hg, fun g hg => hg.elim, hlt, rfl, rfl, rfl, Nat.le_refl _, fun _ _ => rfl, fun _ h => h.1, hgb, hgl, fun j u hu => hu, Nat.le_refl _, fun i hi => .inl (by simp only [St.enterIO]; have := h0 i hi; omega)⟩
    · simp only [Array.size_append, Array.size_replicate]; omega
    · obtain ⟨v, hv, hr'⟩ := hg t p hp
      refine ⟨v, ?_, hr'⟩
      have hv' : xs[t]? = some v := by simpa using hv
      rw [Array.getElem?_append_left (Array.getElem?_eq_some_iff.1 hv').1]
      exact hv'
    · simp only [St.enterIO] at hi
      split at hi
      · rename_i hi0
        obtain ⟨i1, i2⟩ := i
        simp only at hi0
        subst hi0
        exact hh i2 b hi
      · cases hi
    · obtain ⟨i2, rfl⟩ := hz i u hu
      obtain ⟨j2, rfl⟩ := hz j v hv
      rw [hinj i2 j2 u v g hu hv hg hg']
    · obtain ⟨i2, rfl⟩ := hz i u hu
      exact ⟨(hap i2 u g hu hg).1, fun hk => hk.2 ⟨i2, u, hu, hg⟩, (hap i2 u g hu hg).2⟩
  refine calls_of_wp hf hb (wp_mono (h ⟨P, fn.ntmps, w, fun g => g < w.heap.size ∧ ¬ Handed φ0 g, gw, gb, F, φ0⟩ rfl rfl rfl rfl _ _ ⟨_, _, _, hinit⟩) ?_)
  rintro e a' w' ⟨σ', ⟨φ, F0, F1, hR⟩, hq⟩
  have main : RetOkIO P fn.results.toList Hin.length r B σ' → a'.defers = [] ∧ ∃ v, (results fn a'.tmps).run P w' = .ok v w' ∧ ∃ (x : Value) (ψ : Id → Option Value) (X : Nat → Prop), Ending.returned v = .returned x ∧ w'.os = w.os ∧ w'.tape = w.tape ∧ w'.output = w.output ∧ w.heap.size ≤ w'.heap.size ∧
      (∀ g, g < w.heap.size → ¬ Handed φ0 g → w'.heap[g]? = w.heap[g]?) ∧ (∀ g, X g → (w.heap.size ≤ g ∨ Handed φ0 g) ∧ g < w'.heap.size) ∧
      repV ψ w' (Fs (fun g => F g ∨ X g) X) r x ∧ (∀ j b, B[j]? = some (some b) → holds ψ w' (Fs (fun g => F g ∨ X g) X) (0, j) b) ∧ (∀ i, ψ i ≠ none → i.1 = 0) ∧
      (∀ j u, ψ (0, j) = some u → ∃ b, B[j]? = some (some b)) ∧
      (∀ j u g, ψ (0, j) = some u → blkOf u = some g → (w.heap.size ≤ g ∨ Handed φ0 g) ∧ ¬ X g) ∧
      (∀ j k u v g, ψ (0, j) = some u → ψ (0, k) = some v → blkOf u = some g → blkOf v = some g → j = k) ∧
      (∀ j u, j < Hin.length → ψ (0, j) = some u → φ0 (0, j) = some u) := by
    rintro ⟨vs, Z, G, hvs, hG1, hG2, hG0, hcv, hB⟩
    obtain ⟨xs', hrun, hreps⟩ := results_run hR _ vs hvs
    have hx := pack_rep hreps
    obtain ⟨χ, hχ⟩ := exists_names G hG1 φ
    obtain ⟨φ', F0', F1', hT, hV, hφ'⟩ := hR.conv (τ := ⟨fun _ => none, fun j => if j.1 = 0 then (B[j.2]?).join else none, fun _ => false, 1⟩) Z G hG1 hG2 (fun t p' hp => by cases hp)
      (fun j b' hj => by
        simp only at hj
        split at hj
        · rename_i h0
          obtain ⟨j1, j2⟩ := j
          simp only at h0
          subst h0
          refine hB j2 b' ?_
          simp only at hj
          cases hb' : B[j2]? with
          | none => rw [hb'] at hj; cases hj
          | some o => rw [hb'] at hj; simp at hj; rw [hj]
        · cases hj)
      (fun i j hg => .inl (by have := (hG0 i j hg).1; simp only; omega)) (Nat.le_refl _) χ (fun i j u hg _ hu => (hχ j u).2 ⟨i, hg, hu⟩)
    have hF : ∀ t g, Fs F0' F1' t g → Fs (fun g => F g ∨ F1' g) F1' t g := by
      intro t g hg
      cases t
      · exact hT.ini g hg
      · exact hg
    have hH : ∀ j u, φ' (0, j) = some u → ∃ b, B[j]? = some (some b) := by
      intro j u hu
      obtain ⟨i, hg, _⟩ := (hφ' _ u).1 hu
      exact (hG0 i _ hg).2.1
    have hk : ∀ g, ¬ (g < w.heap.size ∧ ¬ Handed φ0 g) → w.heap.size ≤ g ∨ Handed φ0 g := by
      intro g hg
      by_cases h1 : g < w.heap.size
      · right
        apply Classical.byContradiction
        intro h2
        exact hg ⟨h1, h2⟩
      · left; omega
    refine ⟨hR.defs, _, ?_, _, φ', F1', rfl, hR.os, hR.tape, hR.output, hR.big, fun g hg hng => hR.kept g ⟨hg, hng⟩, fun g hg => ⟨hk g (hT.new1 g hg), hT.lt0 g (hT.sub g hg)⟩,
      repV_mono (fun _ _ e => e) (fun _ _ _ => rfl) hF _ _ (hV _ _ _ hcv hx), fun j b hj => ?_, fun i hi => ?_, hH, fun j u g hu hg => ?_, fun j k u v g hu hv hg hg' => ?_, fun j u hj hu => ?_⟩
    · unfold results
      simp only [Array.mapM_eq_mapM_toList]
      simp only [map_eq_pure_bind, Sem.run_bind, Sem.run_pure]
      have key : ∀ m : Sem (List Value), m.run P w' = .ok xs' w' → ((m.run P w').andThen fun a w' => Result.ok a.toArray w').andThen (fun a w' => Result.ok (if h : a.size = 1 then a[0] else Value.tuple a) w') =
          Result.ok (if h : xs'.toArray.size = 1 then xs'.toArray[0] else Value.tuple xs'.toArray) w' := by
        intro m hm; rw [hm]; rfl
      exact key _ hrun
    · exact holds_mono (hT.heap (0, j) b (by simp [hj])) (fun _ _ e => e) hF (fun _ _ _ => rfl) (fun _ _ _ _ => rfl)
    · obtain ⟨u, hu⟩ := Option.ne_none_iff_exists'.1 hi
      obtain ⟨i', hg, _⟩ := (hφ' _ u).1 hu
      exact (hG0 i' _ hg).1
    · obtain ⟨b, hb'⟩ := hH j u hu
      obtain ⟨h1, h2, _⟩ := hT.apart (0, j) u g (by simp [hb']) hu hg
      exact ⟨hk g h2, fun hx => h1 (hT.sub g hx)⟩
    · obtain ⟨b, hb'⟩ := hH j u hu
      obtain ⟨b2, hb2'⟩ := hH k v hv
      have := hT.inj (0, j) (0, k) u v g (by simp [hb']) (by simp [hb2']) hu hv hg hg'
      simpa using this
    · obtain ⟨i, hg, hu'⟩ := (hφ' _ u).1 hu
      have := (hG0 i _ hg).2.2 hj
      subst this
      exact hR.keep j u hu'
  cases e
  case normal => exact main hq
  case ret => exact main hq
  all_goals exact hq.elim
end

section
variable {C : Ctx} {φ : Id → Option Value} {F0 F1 : Nat → Prop} {σ : St} {a : Act} {w : World} {P : Program}

/-- A nil slice may be told as an empty row of the call's own. -/
theorem RelX.nilrow (h : RelX C φ F0 F1 σ a w) {d : Nat} (hd : σ.us d = false) (e : TypeId) (z : Nat) :
    RelX C (upd φ (σ.nx + d, 0) (some (.slice none 0 0))) F0 F1 { σ with H := upd σ.H (σ.nx + d, 0) (some (.arr e z 0 [])), us := upd σ.us d true } a w :=
  h.bind rfl (h.fresh hd) ⟨.slice none 0 0, [], upd_self _ _ _, World.ownsRow_nil w 0 e z, by simp [reps]⟩ (fun g hg => by simp [blkOf] at hg)

theorem wk_nil_slot {t d : Nat} (e : TypeId) (z : Nat) (ht : σ.fr t = some (.one (.c (.slice none 0 0)))) (hd : σ.us d = false) :
    Wk C σ { σ with fr := upd σ.fr t (some (.one (.own (σ.nx + d, 0)))), H := upd σ.H (σ.nx + d, 0) (some (.arr e z 0 [])), us := upd σ.us d true } := by
  rintro a w ⟨φ, F0, F1, h⟩
  have h' := h.nilrow hd e z
  refine ⟨_, F0, F1, h'.size, h'.defs, fun k p hp => ?_, h'.heap, h'.inj, h'.apart, h'.sub, h'.ini, h'.new1, h'.lt0, h'.os, h'.tape, h'.output, h'.big, h'.kept, h'.k0lt, h'.gbig, h'.glob, h'.keep, h'.nx1, h'.ids⟩
  by_cases hk : k = t
  · subst hk
    simp only [upd_self] at hp
    cases hp
    obtain ⟨x, hx, hr⟩ := h.frame k _ ht
    simp only [repV, rep] at hr
    exact ⟨x, hx, by simp only [repV, rep, hr.1]; exact ⟨upd_self _ _ _, rfl⟩⟩
  · simp only [upd_ne _ _ hk] at hp
    exact h'.frame k p hp

theorem wk_nil_cell {i : Id} {k d : Nat} {ty : TypeId} {cs : List PC} (e : TypeId) (z : Nat) (hi : σ.H i = some (.box ty cs)) (hk : cs[k]? = some (.c (.slice none 0 0))) (hd : σ.us d = false) :
    Wk C σ { σ with H := upd (upd σ.H i (some (.box ty (cs.set k (.own (σ.nx + d, 0)))))) (σ.nx + d, 0) (some (.arr e z 0 [])), us := upd σ.us d true } := by
  rintro a w ⟨φ, F0, F1, h⟩
  have h' := h.nilrow hd e z
  have hne : i ≠ (σ.nx + d, 0) := by
    rintro rfl
    obtain ⟨g, vs, hp, _⟩ := h.heap _ _ hi
    rw [h.fresh hd] at hp; cases hp
  have hH : ∀ j, upd (upd σ.H i (some (.box ty (cs.set k (.own (σ.nx + d, 0)))))) (σ.nx + d, 0) (some (.arr e z 0 [])) j ≠ none → upd σ.H (σ.nx + d, 0) (some (.arr e z 0 [])) j ≠ none := by
    intro j hj
    by_cases h1 : j = (σ.nx + d, 0)
    · subst h1; simp [upd_self]
    · rw [upd_ne _ _ h1] at hj ⊢
      by_cases h2 : j = i
      · subst h2; rw [hi]; simp
      · rwa [upd_ne _ _ h2] at hj
  refine ⟨_, F0, F1, h'.size, h'.defs, h'.frame, fun j b hj => ?_, fun j l u v g hj hl => h'.inj j l u v g (hH j hj) (hH l hl), fun j u g hj => h'.apart j u g (hH j hj), h'.sub, h'.ini, h'.new1, h'.lt0, h'.os, h'.tape, h'.output, h'.big, h'.kept, h'.k0lt, h'.gbig, h'.glob, h'.keep, h'.nx1, h'.ids⟩
  by_cases h1 : j = (σ.nx + d, 0)
  · subst h1
    refine h'.heap _ b ?_
    simp only [upd_self] at hj ⊢
    exact hj
  · by_cases h2 : j = i
    · subst h2
      simp only [upd_ne _ _ hne, upd_self] at hj
      cases hj
      obtain ⟨g, vs, hp, hh, hr⟩ := h'.heap j (.box ty cs) (by simp only [upd_ne _ _ h1]; exact hi)
      refine ⟨g, vs, hp, hh, reps_of_get _ _ (by rw [reps_length _ _ hr, List.length_set]) fun q p v hq hv => ?_⟩
      by_cases hqk : q = k
      · subst hqk
        obtain ⟨v', hv', hr'⟩ := reps_get _ _ hr q _ hk
        rw [hv] at hv'; cases hv'
        simp only [rep] at hr'
        rw [List.getElem?_set_self (List.getElem?_eq_some_iff.1 hk).1] at hq
        cases hq
        simp only [rep, hr'.1]
        exact ⟨upd_self _ _ _, rfl⟩
      · rw [List.getElem?_set_ne (Ne.symm hqk)] at hq
        obtain ⟨v', hv', hr'⟩ := reps_get _ _ hr q _ hq
        rw [hv] at hv'; cases hv'
        exact hr'
    · refine h'.heap j b ?_
      simp only [upd_ne _ _ h1, upd_ne _ _ h2] at hj ⊢
      exact hj

/-! ### Returns, told by lists of names -/
theorem nodup_fst {l : List (Id × Id)} (hn : (l.map (·.1)).Nodup) : ∀ i j j', (i, j) ∈ l → (i, j') ∈ l → j = j' := by
  induction l with
  | nil => intro i i' j h; simp at h
  | cons c l ih =>
    intro i j j' h1 h2
    simp only [List.map_cons, List.nodup_cons, List.mem_map, not_exists, not_and] at hn
    rcases List.mem_cons.1 h1 with e1 | e1 <;> rcases List.mem_cons.1 h2 with e2 | e2
    · rw [← e1] at e2; cases e2; rfl
    · exact absurd (by rw [← e1]) (hn.1 _ e2)
    · exact absurd (by rw [← e2]) (hn.1 _ e1)
    · exact ih hn.2 i j j' e1 e2

theorem nodup_snd {l : List (Id × Id)} (hn : (l.map (·.2)).Nodup) : ∀ i i' j, (i, j) ∈ l → (i', j) ∈ l → i = i' := by
  induction l with
  | nil => intro i i' j h; simp at h
  | cons c l ih =>
    intro i i' j h1 h2
    simp only [List.map_cons, List.nodup_cons, List.mem_map, not_exists, not_and] at hn
    rcases List.mem_cons.1 h1 with e1 | e1 <;> rcases List.mem_cons.1 h2 with e2 | e2
    · rw [← e1] at e2; cases e2; rfl
    · exact absurd (by rw [← e1]) (hn.1 _ e2)
    · exact absurd (by rw [← e2]) (hn.1 _ e1)
    · exact ih hn.2 i i' j e1 e2

theorem ret_conv {rs : List ResultVar} {r : PV} {B : List Blk} {vs : List PV} (z : List Id) (m : List (Id × Id)) (hv : resOf P σ rs = some vs) (hm1 : (m.map (·.1)).Nodup) (hm2 : (m.map (·.2)).Nodup) (h0 : ∀ e ∈ m, e.2.1 = 0 ∧ e.2.2 < B.length)
    (hc : ConvV σ.H (· ∈ z) (fun i j => (i, j) ∈ m) (pack vs) r) (hB : ∀ (j : Nat) b', B[j]? = some b' → ∃ i b, (i, ((0, 0 + j) : Id)) ∈ m ∧ i ∉ z ∧ σ.H i = some b ∧ ConvB σ.H (· ∈ z) (fun i j => (i, j) ∈ m) b b') : RetOk P rs r B σ :=
  ⟨vs, (· ∈ z), fun i j => (i, j) ∈ m, hv, nodup_snd hm2, nodup_fst hm1, fun i j h => h0 (i, j) h, hc, fun j b' hj => by simpa using hB j b' hj⟩

theorem rb_nil {P : Nat → Blk → Prop} : ∀ (j : Nat) b', ([] : List Blk)[j]? = some b' → P j b' := by intro j b' h; simp at h
theorem rb_cons {H : Id → Option Blk} {z : List Id} {m : List (Id × Id)} {k : Nat} {b0 : Blk} {B : List Blk} (h : ∃ i b, (i, ((0, k) : Id)) ∈ m ∧ i ∉ z ∧ H i = some b ∧ ConvB H (· ∈ z) (fun i j => (i, j) ∈ m) b b0)
    (ht : ∀ (j : Nat) b', B[j]? = some b' → ∃ i b, (i, ((0, k + 1 + j) : Id)) ∈ m ∧ i ∉ z ∧ H i = some b ∧ ConvB H (· ∈ z) (fun i j => (i, j) ∈ m) b b') : ∀ (j : Nat) b', (b0 :: B)[j]? = some b' → ∃ i b, (i, ((0, k + j) : Id)) ∈ m ∧ i ∉ z ∧ H i = some b ∧ ConvB H (· ∈ z) (fun i j => (i, j) ∈ m) b b' := by
  intro j b' hj
  cases j with
  | zero => simp at hj; subst hj; exact h
  | succ j =>
    have := ht j b' (by simpa using hj)
    rwa [show k + 1 + j = k + (j + 1) by omega] at this

theorem ret_io {rs : List ResultVar} {n : Nat} {r : PV} {B : List (Option Blk)} {vs : List PV} (z : List Id) (m : List (Id × Id)) (hv : resOf P σ rs = some vs) (hm1 : (m.map (·.1)).Nodup) (hm2 : (m.map (·.2)).Nodup)
    (h0 : ∀ e ∈ m, e.2.1 = 0 ∧ ((B[e.2.2]?).join).isSome = true ∧ (e.2.2 < n → e.1 = e.2))
    (hc : ConvV σ.H (· ∈ z) (fun i j => (i, j) ∈ m) (pack vs) r) (hB : ∀ (j : Nat) b', B[j]? = some (some b') → ∃ i b, (i, ((0, 0 + j) : Id)) ∈ m ∧ i ∉ z ∧ σ.H i = some b ∧ ConvB σ.H (· ∈ z) (fun i j => (i, j) ∈ m) b b') : RetOkIO P rs n r B σ := by
  refine ⟨vs, (· ∈ z), fun i j => (i, j) ∈ m, hv, nodup_snd hm2, nodup_fst hm1, fun i j h => ?_, hc, fun j b' hj => by simpa using hB j b' hj⟩
  obtain ⟨h1, h2, h3⟩ := h0 (i, j) h
  refine ⟨h1, ?_, h3⟩
  obtain ⟨b, hb⟩ := Option.isSome_iff_exists.1 h2
  exact ⟨b, Option.join_eq_some_iff.1 hb⟩

theorem rio_nil {P : Nat → Blk → Prop} : ∀ (j : Nat) b', ([] : List (Option Blk))[j]? = some (some b') → P j b' := by intro j b' h; simp at h
theorem rio_none {H : Id → Option Blk} {z : List Id} {m : List (Id × Id)} {k : Nat} {B : List (Option Blk)}
    (ht : ∀ (j : Nat) b', B[j]? = some (some b') → ∃ i b, (i, ((0, k + 1 + j) : Id)) ∈ m ∧ i ∉ z ∧ H i = some b ∧ ConvB H (· ∈ z) (fun i j => (i, j) ∈ m) b b') : ∀ (j : Nat) b', (none :: B)[j]? = some (some b') → ∃ i b, (i, ((0, k + j) : Id)) ∈ m ∧ i ∉ z ∧ H i = some b ∧ ConvB H (· ∈ z) (fun i j => (i, j) ∈ m) b b' := by
  intro j b' hj
  cases j with
  | zero => simp at hj
  | succ j =>
    have := ht j b' (by simpa using hj)
    rwa [show k + 1 + j = k + (j + 1) by omega] at this
theorem rio_cons {H : Id → Option Blk} {z : List Id} {m : List (Id × Id)} {k : Nat} {b0 : Blk} {B : List (Option Blk)} (h : ∃ i b, (i, ((0, k) : Id)) ∈ m ∧ i ∉ z ∧ H i = some b ∧ ConvB H (· ∈ z) (fun i j => (i, j) ∈ m) b b0)
    (ht : ∀ (j : Nat) b', B[j]? = some (some b') → ∃ i b, (i, ((0, k + 1 + j) : Id)) ∈ m ∧ i ∉ z ∧ H i = some b ∧ ConvB H (· ∈ z) (fun i j => (i, j) ∈ m) b b') : ∀ (j : Nat) b', (some b0 :: B)[j]? = some (some b') → ∃ i b, (i, ((0, k + j) : Id)) ∈ m ∧ i ∉ z ∧ H i = some b ∧ ConvB H (· ∈ z) (fun i j => (i, j) ∈ m) b b' := by
  intro j b' hj
  cases j with
  | zero => simp at hj; subst hj; exact h
  | succ j =>
    have := ht j b' (by simpa using hj)
    rwa [show k + 1 + j = k + (j + 1) by omega] at this
end
attribute [push_cast] St.enterIO
end Go.Vm
end

section
namespace Go.Vm
open Go Go.RowKit
set_option linter.unusedVariables false

/-- Ways through a statement that meet again. -/
theorem vwp_seq_merge {C : Ctx} {Q : Post} {σ : St} {x y : Code} {α : Type} (P : α → Prop) (I : α → St) (h1 : ∀ K : St → Prop, (∀ σ' a, P a → Wk C σ' (I a) → K σ') → vwp C x (thenQ K Q) σ) (h2 : ∀ a, P a → vwp C y Q (I a)) : vwp C (.seq x y) Q σ :=
  vwp_seq fun K hK => h1 K fun σ' a hp hw => hK σ' (vwp_wk hw (h2 a hp))

/-! ### Lists under an index that is an integer -/
section
variable {α : Type} {l : List α} {i : Int}
theorem flat_two (f g : α → PC) : ∀ (l : List α) (k : Nat), List.drop (k * 2) (l.flatMap fun a => [f a, g a]) = (l.drop k).flatMap fun a => [f a, g a]
  | [], k => by simp
  | a :: l, 0 => by simp
  | a :: l, k + 1 => by
    rw [show (k + 1) * 2 = k * 2 + 2 by omega, List.flatMap_cons, List.drop_succ_cons]
    exact flat_two f g l k
theorem take_all (h1 : ¬ i < (l.length : Int)) : l.take i.toNat = l := List.take_of_length_le (by omega)
theorem len_take (h0 : 0 ≤ i) (h1 : i ≤ (l.length : Int)) : (l.take i.toNat).length = i.toNat := by rw [List.length_take]; omega
theorem all_end {p : α → Bool} {b : Bool} (h1 : ¬ i < (l.length : Int)) (h : (l.drop i.toNat).all p = b) : b = true := by
  rw [List.drop_eq_nil_of_le (by omega)] at h
  exact h.symm
theorem any_end {p : α → Bool} {b : Bool} (h1 : ¬ i < (l.length : Int)) (h : (l.drop i.toNat).any p = b) : b = false := by
  rw [List.drop_eq_nil_of_le (by omega)] at h
  exact h.symm
theorem wrap_next {n : Int} (h0 : 0 ≤ i) (h1 : i < n) (hn : n ≤ 9223372036854775807) : IntKind.wrap .i64 (i + 1) = i + 1 := by
  rw [IntKind.wrap_i64]; omega
end

section
variable {α : Type} [Inhabited α] {l : List α} {i : Int}
def atI (l : List α) (i : Int) : α := l.getD i.toNat default

theorem drop_atI (h0 : 0 ≤ i) (h1 : i < (l.length : Int)) : l.drop i.toNat = atI l i :: l.drop (i.toNat + 1) := by
  have hl : i.toNat < l.length := by omega
  rw [List.drop_eq_getElem_cons hl]
  simp [atI, List.getD, List.getElem?_eq_getElem hl]
theorem dropI_map (f : α → PC) (h0 : 0 ≤ i) (h1 : i < (l.length : Int)) : List.drop (i.toNat * 1) (l.map f) = f (atI l i) :: List.drop (i.toNat + 1) (l.map f) := by
  rw [Nat.mul_one, ← List.map_drop, drop_atI h0 h1, List.map_cons, List.map_drop]
theorem dropI_two (f g : α → PC) (h0 : 0 ≤ i) (h1 : i < (l.length : Int)) : List.drop (i.toNat * 2) (l.flatMap fun a => [f a, g a]) = f (atI l i) :: g (atI l i) :: (l.drop (i.toNat + 1)).flatMap fun a => [f a, g a] := by
  rw [flat_two, drop_atI h0 h1, List.flatMap_cons]
  rfl
theorem take_next (h0 : 0 ≤ i) (h1 : i < (l.length : Int)) : l.take (i + 1).toNat = l.take i.toNat ++ [atI l i] := by
  have hl : i.toNat < l.length := by omega
  rw [show (i + 1).toNat = i.toNat + 1 by omega, List.take_succ_eq_append_getElem hl]
  simp [atI, List.getD, List.getElem?_eq_getElem hl]
theorem any_next {p : α → Bool} {b : Bool} (h0 : 0 ≤ i) (h1 : i < (l.length : Int)) (h : (l.drop i.toNat).any p = b) (hp : p (atI l i) = false) : (l.drop (i + 1).toNat).any p = b := by
  rw [drop_atI h0 h1, List.any_cons, hp, Bool.false_or] at h
  rwa [show (i + 1).toNat = i.toNat + 1 by omega]
theorem any_stop {p : α → Bool} {b : Bool} (h0 : 0 ≤ i) (h1 : i < (l.length : Int)) (h : (l.drop i.toNat).any p = b) (hp : p (atI l i) = true) : b = true := by
  rw [drop_atI h0 h1, List.any_cons, hp, Bool.true_or] at h
  exact h.symm
theorem atI_mem (h0 : 0 ≤ i) (h1 : i < (l.length : Int)) : atI l i ∈ l := by
  have hl : i.toNat < l.length := by omega
  have : atI l i = l[i.toNat] := by simp [atI, List.getD, List.getElem?_eq_getElem hl]
  rw [this]; exact List.getElem_mem hl
theorem all_next {p : α → Bool} {b : Bool} (h0 : 0 ≤ i) (h1 : i < (l.length : Int)) (h : (l.drop i.toNat).all p = b) (hp : p (atI l i) = true) : (l.drop (i + 1).toNat).all p = b := by
  rw [drop_atI h0 h1, List.all_cons, hp, Bool.true_and] at h
  rwa [show (i + 1).toNat = i.toNat + 1 by omega]
theorem all_stop {p : α → Bool} {b : Bool} (h0 : 0 ≤ i) (h1 : i < (l.length : Int)) (h : (l.drop i.toNat).all p = b) (hp : p (atI l i) = false) : b = false := by
  rw [drop_atI h0 h1, List.all_cons, hp, Bool.false_and] at h
  exact h.symm
end

/-! ### A row that is filled from its head on -/
section
variable {α : Type} {f : α → PC} {z x y : PC} {l : List α} {k : Nat}
def rowAt (f : α → PC) (z : PC) (l : List α) (k : Nat) : List PC := (l.take k).map f ++ List.replicate (l.length - k) z
def rowPut (f : α → PC) (z : PC) (l : List α) (k : Nat) (x : PC) : List PC := (l.take k).map f ++ x :: List.replicate (l.length - (k + 1)) z
theorem rowZ_one (n : Nat) : rowZ [z] n = List.replicate n z := by
  induction n with
  | zero => rfl
  | succ n ih => rw [rowZ, ih]; rfl
theorem rowAt_zero : rowZ [z] l.length = rowAt f z l 0 := by simp [rowAt, rowZ_one]
theorem rowAt_end : rowAt f z l l.length = l.map f := by simp [rowAt]
theorem rowAt_len (h : k ≤ l.length) : (rowAt f z l k).length = l.length := by simp [rowAt]; omega
theorem rowPut_len (h : k < l.length) : (rowPut f z l k x).length = l.length := by simp [rowPut]; omega
theorem splice_at {a b : List PC} (h : a.length = k) : splice (a ++ x :: b) k [y] = a ++ y :: b := by
  subst h
  simp [splice, List.drop_append]
theorem rowAt_put (h : k < l.length) : splice (rowAt f z l k) k [x] = rowPut f z l k x := by
  unfold rowAt rowPut
  rw [show l.length - k = (l.length - (k + 1)) + 1 by omega, List.replicate_succ]
  exact splice_at (by simp; omega)
theorem rowPut_put (h : k < l.length) : splice (rowPut f z l k x) k [y] = rowPut f z l k y := by
  unfold rowPut
  exact splice_at (by simp; omega)
theorem rowAt_frees (hz : z.free = true) (hf : ∀ a, (f a).free = true) : PC.frees (rowAt f z l k) = true := by
  unfold rowAt
  rw [frees_append, frees_map]
  have h1 : ∀ n, PC.frees (List.replicate n z) = true := by
    intro n
    induction n with
    | zero => rfl
    | succ n ih => rw [List.replicate_succ, PC.frees, hz, ih]; rfl
  rw [h1, Bool.and_true, List.all_eq_true]
  exact fun a _ => hf a
theorem rowAt_next [Inhabited α] {i : Int} (h0 : 0 ≤ i) (h1 : i < (l.length : Int)) : rowPut f z l i.toNat (f (atI l i)) = rowAt f z l (i + 1).toNat := by
  unfold rowPut rowAt
  rw [take_next h0 h1, List.map_append, List.append_assoc, show (i + 1).toNat = i.toNat + 1 by omega]
  rfl
end

/-! ### Strings of bytes -/
def bOf (l : List UInt8) : ByteArray := ⟨l.toArray⟩
theorem bOf_append (a b : List UInt8) : bOf (a ++ b) = bOf a ++ bOf b := by
  apply ByteArray.ext
  rw [ByteArray.data_append]
  simp [bOf]
theorem bOf_size (l : List UInt8) : (bOf l).size = l.length := by simp [bOf, ByteArray.size]
theorem ba_ext {a b : ByteArray} (h : a.toList = b.toList) : a = b := by
  rw [ByteArray.toList_eq, ByteArray.toList_eq] at h
  obtain ⟨a⟩ := a
  obtain ⟨b⟩ := b
  congr 1
  exact Array.toList_inj.1 h
theorem bOf_toList (l : List UInt8) : (bOf l).toList = l := by rw [ByteArray.toList_eq]; rfl
theorem bOf_inj {a b : List UInt8} (h : bOf a = bOf b) : a = b := by
  have := congrArg ByteArray.toList h
  rwa [bOf_toList, bOf_toList] at this
theorem bOf_of (b : ByteArray) : bOf b.toList = b := ba_ext (bOf_toList _)
end Go.Vm
end

section
namespace Go.Vm
open Go Go.RowKit Go.Proofs Go.Shelf
set_option linter.unusedVariables false

/-! ### strings.Builder -/
section
variable {P : Program} {ρ : Ren} {gw : World} {gb : Nat}

/-- What the first cell of a builder may hold: nothing yet, or its own address. -/
def BuilderHead (p : PC) : Prop := p = .c (.pointer none) ∨ p = .loc (0, 0) 0

theorem copyCheck_io {f T : Nat} (hc : Callable P f) (hused : ∀ (b : Nat) (w : World), w.cell? ⟨b, 0, none⟩ = some (.pointer (some ⟨b, 0, none⟩)) → Calls P f #[.pointer (some ⟨b, 0, none⟩)] w fun e w' => e = .returned (.tuple #[]) ∧ w' = w)
    (hfresh : ∀ (b : Nat) (w : World), w.cell? ⟨b, 0, none⟩ = some (.pointer none) → w.shape? b = some (T, 2) → w.frozen? ⟨b, 0, none⟩ = false → Calls P f #[.pointer (some ⟨b, 0, none⟩)] w fun e w' => e = .returned (.tuple #[]) ∧ w' = w.setCell ⟨b, 0, none⟩ (.pointer (some ⟨b, 0, none⟩))) (p q : PC) (hp : BuilderHead p) (bs : List Blk) :
    VCallIO P gw gb f [.one (.loc (0, 0) 0)] (.box T [p, q] :: bs) (.tup []) (some (.box T [.loc (0, 0) 0, q]) :: bs.map some) := by
  refine ⟨hc, by simp, fun w xs F φ0 hgb hgl hlt h0 hh hap hdom hinj hr => ?_⟩
  obtain ⟨g, vs, hp0, hg, hrs⟩ := hh 0 _ rfl
  simp only [repVs, repV, rep] at hr
  obtain ⟨x, xs', hxs, ⟨u, g', hu, hg', rfl⟩, rfl⟩ := hr
  rw [hp0] at hu; cases hu
  simp only [blkOf, Option.some.injEq] at hg'
  subst hg'
  have hxs' : xs = #[.pointer (some ⟨g, 0, none⟩)] := by apply Array.toList_inj.1; rw [hxs]
  subst hxs'
  simp only [reps] at hrs
  obtain ⟨v0, _, rfl, hv0, v1, _, rfl, hv1, rfl⟩ := hrs
  have hbk : w.heap[g]? = some (.cells #[v0, v1] T (0, 0)) := hg
  have c0 : w.cell? ⟨g, 0, none⟩ = some v0 := by rw [Lib.cell_of_heap hbk]; rfl
  have hFg : ¬ F g := (hap 0 _ g hp0 rfl).1
  have hglt : g < w.heap.size := holds_lt (hh 0 _ rfl) hp0 rfl
  have hhd : Handed φ0 g := ⟨0, _, hp0, rfl⟩
  have hself : rep φ0 w (Fs (fun g => F g ∨ False) fun _ => False) (.loc (0, 0) 0) (.pointer (some ⟨g, 0, none⟩)) := by
    simp only [rep]; exact ⟨_, g, hp0, rfl, rfl⟩
  -- the world behind it: the block g alone is written
  have fin : ∀ w' : World, w'.os = w.os → w'.tape = w.tape → w'.output = w.output → w'.heap.size = w.heap.size → (∀ k, k ≠ g → w'.heap[k]? = w.heap[k]?) → w'.heap[g]? = some (.cells #[.pointer (some ⟨g, 0, none⟩), v1] T (0, 0)) →
      ∃ (x : Value) (ψ : Id → Option Value) (X : Nat → Prop), Ending.returned (.tuple #[]) = .returned x ∧ w'.os = w.os ∧ w'.tape = w.tape ∧ w'.output = w.output ∧ w.heap.size ≤ w'.heap.size ∧
      (∀ g, g < w.heap.size → ¬ Handed φ0 g → w'.heap[g]? = w.heap[g]?) ∧ (∀ g, X g → (w.heap.size ≤ g ∨ Handed φ0 g) ∧ g < w'.heap.size) ∧
      repV ψ w' (Fs (fun g => F g ∨ X g) X) (.tup []) x ∧ (∀ (j : Nat) b, (some (.box T [.loc (0, 0) 0, q]) :: bs.map some)[j]? = some (some b) → holds ψ w' (Fs (fun g => F g ∨ X g) X) (0, j) b) ∧ (∀ i, ψ i ≠ none → i.1 = 0) ∧
      (∀ j u, ψ (0, j) = some u → ∃ b, (some (.box T [.loc (0, 0) 0, q]) :: bs.map some)[j]? = some (some b)) ∧
      (∀ j u g, ψ (0, j) = some u → blkOf u = some g → (w.heap.size ≤ g ∨ Handed φ0 g) ∧ ¬ X g) ∧
      (∀ j k u v g, ψ (0, j) = some u → ψ (0, k) = some v → blkOf u = some g → blkOf v = some g → j = k) ∧
      (∀ j u, j < (.box T [p, q] :: bs).length → ψ (0, j) = some u → φ0 (0, j) = some u) := by
    intro w' h1 h2 h3 h4 h5 h6
    have hwF : ∀ t k, Fs F (fun _ => False) t k → w'.heap[k]? = w.heap[k]? := by
      intro t k hk
      refine h5 k ?_
      rintro rfl
      cases t
      · exact hFg hk
      · exact hk.elim
    have hF' : ∀ t k, Fs F (fun _ => False) t k → Fs (fun g => F g ∨ False) (fun _ => False) t k := by
      intro t k hk
      cases t
      · exact .inl hk
      · exact hk
    refine ⟨_, φ0, fun _ => False, rfl, h1, h2, h3, by omega, fun k hk hn => h5 k ?_, fun k hk => hk.elim, ?_, fun j b hj => ?_, h0, fun j u hu => ?_, fun j u k hu hk => ⟨.inr ⟨j, u, hu, hk⟩, id⟩, hinj, fun j u _ hu => hu⟩
    · rintro rfl; exact hn hhd
    · simp only [repV, repVs]; exact ⟨#[], rfl, rfl⟩
    · cases j with
      | zero =>
        simp only [List.getElem?_cons_zero, Option.some.injEq] at hj
        subst hj
        refine ⟨g, [.pointer (some ⟨g, 0, none⟩), v1], hp0, h6, ?_⟩
        simp only [reps]
        refine ⟨_, _, rfl, ?_, _, _, rfl, rep_mono (fun _ _ e => e) hwF hF' q v1 hv1, rfl⟩
        simp only [rep]; exact ⟨_, g, hp0, rfl, rfl⟩
      | succ j =>
        simp only [List.getElem?_cons_succ, List.getElem?_map] at hj
        obtain ⟨b', hb', he⟩ := Option.map_eq_some_iff.1 hj
        cases he
        refine holds_mono (hh (j + 1) b (by simpa using hb')) (fun _ _ e => e) hF' hwF fun u k hu hk => h5 k ?_
        rintro rfl
        have := hinj (j + 1) 0 _ _ k hu hp0 hk rfl
        omega
    · have hj := hdom j u hu
      cases j with
      | zero => exact ⟨_, rfl⟩
      | succ j =>
        have hj' : j < bs.length := by simpa using hj
        exact ⟨bs[j], by simp [hj']⟩
  rcases hp with rfl | rfl
  · simp only [rep] at hv0
    obtain ⟨rfl, _⟩ := hv0
    refine (hfresh g w c0 (by simp [World.shape?, hbk]) (Lib.frozen_of_heap hbk 0)).mono ?_
    rintro e w' ⟨rfl, rfl⟩
    refine fin _ rfl rfl rfl (by simp [World.setCell]) (fun k hk => ?_) ?_
    · simp only [World.setCell, Array.getElem?_modify, if_neg (Ne.symm hk)]
    · simp only [World.setCell, Array.getElem?_modify, if_true, hbk, Option.map_some, Option.isSome_none, Bool.false_eq_true, if_false]
      rfl
  · simp only [rep] at hv0
    obtain ⟨u, g2, hu, hg2, rfl⟩ := hv0
    rw [hp0] at hu; cases hu
    simp only [blkOf, Option.some.injEq] at hg2
    subst hg2
    refine (hused g w c0).mono ?_
    rintro e w' ⟨rfl, rfl⟩
    exact fin _ rfl rfl rfl rfl (fun _ _ => rfl) hbk

/-- The string that a builder holds, at last: its row is no row of the call's own from then on. -/
theorem string_io (L : Lays.n169 P ρ) (X : Builder.Extra P ρ) (hc : Callable P (ρ.f 169)) (p : PC) (l : List UInt8) (hl : l ≠ []) (n : Nat) (cs : List PC) (hn : n = l.length) (hcs : cs = (Lib.byteCells l).map .c) :
    VCallIO P gw gb (ρ.f 169) [.one (.loc (0, 0) 0)] [.box (ρ.t 72) [p, .own (0, 1)], .arr (ρ.t 5) 1 n cs] (.one (.c (.string ⟨l.toArray⟩))) [none, none] := by
  subst hn hcs
  refine ⟨hc, by simp, fun w xs F φ0 hgb hgl hlt h0 hh hap hdom hinj hr => ?_⟩
  obtain ⟨b, vs, hp0, hg, hrs⟩ := hh 0 _ rfl
  obtain ⟨v, us, hp1, hown, hrs1⟩ := hh 1 _ rfl
  simp only [repVs, repV, rep] at hr
  obtain ⟨x, xs', hxs, ⟨u, g', hu, hg', rfl⟩, rfl⟩ := hr
  rw [hp0] at hu; cases hu
  simp only [blkOf, Option.some.injEq] at hg'
  subst hg'
  have hxs' : xs = #[.pointer (some ⟨b, 0, none⟩)] := by apply Array.toList_inj.1; rw [hxs]
  subst hxs'
  simp only [reps] at hrs
  obtain ⟨v0, _, rfl, hv0, v1, _, rfl, hv1, rfl⟩ := hrs
  simp only [rep] at hv1
  rw [hp1] at hv1
  obtain ⟨hv1, _⟩ := hv1
  cases hv1
  have hus : us = Lib.byteCells l := by
    have := repVs_plain (φ := φ0) (w := w) (F := Fs F fun _ => False) (Lib.byteCells l) us ?_
    · exact this
    · have h1 := repVs_ones hrs1
      simpa [List.map_map, Function.comp_def] using h1
  subst hus
  have hl0 : l.length ≠ 0 := by simpa using hl
  obtain ⟨g, cap, cur, rfl, hbg, hgg, hnc, hcm, hcs, htake⟩ : ∃ g cap cur, v = .slice (some ⟨g, 0, none⟩) l.length cap ∧ 0 ≤ g ∧ w.heap[g]? = some (.cells cur (ρ.t 5) (0, 0)) ∧ l.length ≤ cap ∧ cap ≤ maxLen ∧ cur.size = cap * 1 ∧ cur.toList.take (l.length * 1) = Lib.byteCells l := by
    rcases hown.2 with ⟨_, h0⟩ | ⟨g, cap, cur, h⟩
    · exact absurd h0 hl0
    · exact ⟨g, cap, cur, h⟩
  have hbk : w.heap[b]? = some (.cells #[v0, .slice (some ⟨g, 0, none⟩) l.length cap] (ρ.t 72) (0, 0)) := hg
  have hgw : w.drew.heap[g]? = some (.cells cur (ρ.t 5) (0, 0)) := hgg
  have c1 : w.drew.cell? ⟨b, 1, none⟩ = some (.slice (some ⟨g, 0, none⟩) l.length cap) := by
    have : w.drew.heap[b]? = some (.cells #[v0, .slice (some ⟨g, 0, none⟩) l.length cap] (ρ.t 72) (0, 0)) := hbk
    rw [Lib.cell_of_heap this]; rfl
  have hSD : (Builtin.unsafeSliceData_ #[(ρ.t 37)] (ρ.t 127) #[.slice (some ⟨g, 0, none⟩) l.length cap]).run P w.drew = .ok (.pointer (some ⟨g, 0, none⟩)) w.drew :=
    Lib.run_unsafeSliceData_row _ _ _ _ _ _ (by omega)
  have hUS : (Builtin.unsafeString_ #[(ρ.t 127), (ρ.t 3)] (ρ.t 9) #[.pointer (some ⟨g, 0, none⟩), .int .i64 l.length]).run P w.drew = .ok (.string ⟨l.toArray⟩) (w.drew.freeze ⟨g, 0, none⟩ l.length) := by
    refine Lib.run_unsafeString_row w.drew (ρ.t 127) (ρ.t 3) (ρ.t 9) (ρ.t 5) L.t127 X.cellsByte g cur.size (by simp [World.shape?, hgw]) l hl (by omega) (by unfold maxLen at hcm; omega) fun j x hx => ?_
    exact hown.cells (g := g) rfl j (.int .u8 x.toNat) (by simp [Lib.byteCells, hx])
  have hgb' : g ≠ b := by
    rintro rfl
    have := hinj 1 0 _ _ g hp1 hp0 rfl rfl
    omega
  have hhd : Handed φ0 g := ⟨1, _, hp1, rfl⟩
  have hfz : ∀ k, k ≠ g → (w.drew.freeze ⟨g, 0, none⟩ l.length).heap[k]? = w.heap[k]? := by
    intro k hk
    unfold World.freeze
    split
    · rfl
    · simp only [Array.getElem?_modify, if_neg (Ne.symm hk)]; rfl
  have main : Calls P (ρ.f 169) #[.pointer (some ⟨b, 0, none⟩)] w fun e w' => e = .returned (.string ⟨l.toArray⟩) ∧ w' = w.drew.freeze ⟨g, 0, none⟩ l.length := by
    have mixed := L.mixed
    have t72 := L.t72; have a72 := L.a72; have z72 := L.z72; have v72 := L.v72; have u72 := run_underlying L.t72
    have t70 := L.t70; have a70 := L.a70; have z70 := L.z70; have v70 := L.v70; have u70 := run_underlying L.t70
    have t37 := L.t37; have a37 := L.a37; have z37 := L.z37; have v37 := L.v37; have u37 := run_underlying L.t37
    have t127 := L.t127; have a127 := L.a127; have z127 := L.z127; have v127 := L.v127; have u127 := run_underlying L.t127
    have t3 := L.t3; have a3 := L.a3; have z3 := L.z3; have v3 := L.v3; have u3 := run_underlying L.t3
    have t9 := L.t9; have a9 := L.a9; have z9 := L.z9; have v9 := L.v9; have u9 := run_underlying L.t9
    have t5 := X.t5; have a5 := X.a5; have z5 := X.z5; have v5 := X.v5; have u5 := run_underlying X.t5
    clear hinj hdom hap h0 hh hlt hgl hgb hrs1 hg hv0 hxs hp0 hp1 hown hfz hhd
    go_enter L.f169, Body.n169_ntmps ρ
    go_wp2
    go_region_o
    all_goals (go_wp2; go_ret; exact ⟨rfl, rfl⟩)
  refine main.mono ?_
  rintro e w' ⟨rfl, rfl⟩
  refine ⟨_, fun _ => none, fun _ => False, rfl, ?_, ?_, ?_, ?_, fun k hk hn => hfz k ?_, fun k hk => hk.elim, ?_, fun j b hj => ?_, fun i hi => absurd rfl hi, fun j u hu => (by cases hu), fun j u k hu => (by cases hu), fun j k u v g hu => (by cases hu), fun j u _ hu => (by cases hu)⟩
  · unfold World.freeze; split <;> rfl
  · unfold World.freeze; split <;> rfl
  · unfold World.freeze; split <;> rfl
  · unfold World.freeze
    split
    · exact Nat.le_refl _
    · simp only [Array.size_modify]; exact Nat.le_refl _
  · rintro rfl; exact hn hhd
  · simp only [repV, rep]; exact ⟨trivial, rfl⟩
  · match j, hj with
    | 0, hj => simp at hj
    | 1, hj => simp at hj
    | j + 2, hj => simp at hj
end
end Go.Vm
end
