/-
  Abstract states over the model's worlds, and that a step of them is a step of the program: part VmAH of a framework. Conditions: each theorem's own premises. By an AI agent.
-/
import Derived.Test.YtahbpfahgggjhaaGreatDoorVmAG
import Derived.Deep.Draws
import Derived.Shelf.Strings.Builder1
import Derived.RangeFuncSeq
import Derived.RangeFuncCalls
import Derived.RangeFuncRecord
section
namespace Go.Vm
open Go Go.RowKit
set_option linter.unusedVariables false

theorem upd_app {α β : Type} [DecidableEq α] (f : α → β) (i : α) (b : β) (j : α) : upd f i b j = if j = i then b else f j := rfl

theorem bindB_nil (s : Nat) (H : Id → Option Blk) : bindB s [] H = H := by funext i; simp [bindB]
theorem bindB_one (s : Nat) (b : Blk) (H : Id → Option Blk) : bindB s [b] H = upd H (s, 0) (some (b.ren s)) := by
  funext ⟨i1, i2⟩
  simp only [bindB, upd]
  by_cases h : i1 = s
  · subst h
    cases i2 with
    | zero => simp
    | succ i2 => simp
  · simp [h]

/-! ### States, told by lists -/
def lookF (t : Nat) : List (Nat × PV) → Option PV
  | [] => none
  | (k, p) :: l => if t = k then some p else lookF t l
def lookH (i : Id) : List (Id × Blk) → Option Blk
  | [] => none
  | (k, b) :: l => if i = k then some b else lookH i l
def inU (d : Nat) : List Nat → Bool
  | [] => false
  | k :: l => if d = k then true else inU d l

def St.of (fr : List (Nat × PV)) (H : List (Id × Blk)) (u : List Nat) : St := ⟨fun t => lookF t fr, fun i => lookH i H, fun d => inU d u, 1, fun _ => none⟩

theorem lookF_mem {t : Nat} {p : PV} : ∀ {l : List (Nat × PV)}, lookF t l = some p → (t, p) ∈ l
  | [], h => by simp [lookF] at h
  | (k, q) :: l, h => by
    simp only [lookF] at h
    split at h
    · rename_i hk; subst hk; cases h; simp
    · exact List.mem_cons_of_mem _ (lookF_mem h)
theorem lookH_mem {i : Id} {b : Blk} : ∀ {l : List (Id × Blk)}, lookH i l = some b → (i, b) ∈ l
  | [], h => by simp [lookH] at h
  | (k, q) :: l, h => by
    simp only [lookH] at h
    split at h
    · rename_i hk; subst hk; cases h; simp
    · exact List.mem_cons_of_mem _ (lookH_mem h)
theorem inU_mem {d : Nat} : ∀ {l : List Nat}, d ∈ l → inU d l = true
  | k :: l, h => by
    simp only [inU]
    split
    · rfl
    · rename_i hk
      exact inU_mem ((List.mem_cons.1 h).resolve_left hk)

/-- Weaker, by names anew (m: old, new), some rows frozen (z). -/
theorem wk_conv {C : Ctx} {σ : St} (z : List Id) (m : List (Id × Id)) {fr : List (Nat × PV)} {H : List (Id × Blk)} {u : List Nat}
    (hm1 : (m.map (·.1)).Nodup) (hm2 : (m.map (·.2)).Nodup) (hu : ∀ e ∈ m, (e.2.1 = 0 ∧ e.1 = e.2) ∨ ∃ d ∈ u, e.2.1 = 1 + d)
    (hf : ∀ e ∈ fr, ∃ p, σ.fr e.1 = some p ∧ ConvV σ.H (· ∈ z) (fun i j => (i, j) ∈ m) p e.2)
    (hH : ∀ e ∈ H, ∃ i b, (i, e.1) ∈ m ∧ i ∉ z ∧ σ.H i = some b ∧ ConvB σ.H (· ∈ z) (fun i j => (i, j) ∈ m) b e.2) : Wk C σ (St.of fr H u) := by
  rintro C₁ l a w ⟨φ, F0, F1, h⟩
  have i1 : ∀ {l : List (Id × Id)}, (l.map (·.2)).Nodup → ∀ i i' j, (i, j) ∈ l → (i', j) ∈ l → i = i' := by
    intro l
    induction l with
    | nil => intro _ i i' j h; simp at h
    | cons c l ih =>
      intro hn i i' j h1 h2
      simp only [List.map_cons, List.nodup_cons, List.mem_map, not_exists, not_and] at hn
      rcases List.mem_cons.1 h1 with e1 | e1 <;> rcases List.mem_cons.1 h2 with e2 | e2
      · rw [← e1] at e2; cases e2; rfl
      · exact absurd (by rw [← e1]) (hn.1 _ e2)
      · exact absurd (by rw [← e2]) (hn.1 _ e1)
      · exact ih hn.2 i i' j e1 e2
  have i2 : ∀ {l : List (Id × Id)}, (l.map (·.1)).Nodup → ∀ i j j', (i, j) ∈ l → (i, j') ∈ l → j = j' := by
    intro l
    induction l with
    | nil => intro _ i i' j h; simp at h
    | cons c l ih =>
      intro hn i j j' h1 h2
      simp only [List.map_cons, List.nodup_cons, List.mem_map, not_exists, not_and] at hn
      rcases List.mem_cons.1 h1 with e1 | e1 <;> rcases List.mem_cons.1 h2 with e2 | e2
      · rw [← e1] at e2; cases e2; rfl
      · exact absurd (by rw [← e1]) (hn.1 _ e2)
      · exact absurd (by rw [← e2]) (hn.1 _ e1)
      · exact ih hn.2 i j j' e1 e2
  obtain ⟨φ', F0', F1', hR, _⟩ := h.conv (τ := St.of fr H u) (· ∈ z) (fun i j => (i, j) ∈ m) (i1 hm2) (i2 hm1) (fun t p hp => hf (t, p) (lookF_mem hp)) (fun t p hp => by cases hp) (fun j b hb => hH (j, b) (lookH_mem hb))
    (fun i j hg => (hu (i, j) hg).elim (fun hh => .inl (by simp only [St.of]; have := hh.1; simp only at this; omega)) fun ⟨d, hd, hj⟩ => .inr ⟨d, inU_mem hd, hj⟩) (Nat.le_refl _) C₁.φi (fun i j u hg hj hu' => (hu (i, j) hg).elim (fun hh => by
      have e : i = j := hh.2
      subst e
      obtain ⟨i1, i2⟩ := i
      simp only at hj
      subst hj
      exact h.keep i2 u hu') fun ⟨d, _, he⟩ => (by simp only at he; omega))
  exact ⟨φ', F0', F1', hR⟩

section
variable {σ : St} {H : Id → Option Blk} {Z : Id → Prop} {G : Id → Id → Prop}
theorem ConvB.free {b : Blk} (h : PC.frees b.kids = true) : ConvB H Z G b b := by
  cases b with
  | box ty cs => exact .box (ConvL.free h)
  | arr ty z n cs => exact .arr (ConvL.free h)
  | mp ty es => exact .mp rfl (ConvL.free h)
end

/-! ### Results that bear no names -/
theorem splice_zero {α : Type} (xs : List α) : splice xs 0 [] = xs := by simp [splice]
theorem splice_step {α : Type} (x y : α) (xs ys : List α) : splice (x :: xs) 0 (y :: ys) = y :: splice xs 0 ys := by simp [splice, Nat.add_comm]
theorem splice_skip {α : Type} (x : α) (xs ys : List α) (k : Nat) : splice (x :: xs) (k + 1) ys = x :: splice xs k ys := by simp [splice, Nat.add_right_comm]

/-! ### Rows told by a list of anything -/
section
variable {α : Type} (l : List α) (f : α → PC) (g : α → List PC) (s : Nat) (H : Id → Option Blk) (k : Nat)
theorem rens_map : PC.rens s (l.map f) = l.map fun a => (f a).ren s := by induction l with | nil => rfl | cons a l ih => simp only [List.map_cons, PC.rens, ih]
theorem weaks_map : PC.weaks (l.map f) = l.map fun a => (f a).weak := by induction l with | nil => rfl | cons a l ih => simp only [List.map_cons, PC.weaks, ih]
theorem frees_map : PC.frees (l.map f) = l.all fun a => (f a).free := by induction l with | nil => rfl | cons a l ih => simp only [List.map_cons, PC.frees, List.all_cons, ih]
theorem stricts_map : PC.stricts (l.map f) = l.all fun a => (f a).strict := by induction l with | nil => rfl | cons a l ih => simp only [List.map_cons, PC.stricts, List.all_cons, ih]
theorem clo_map : (l.map f).map (clo H k) = l.map fun a => clo H k (f a) := by rw [List.map_map]; rfl
theorem all_tt : (l.all fun _ => true) = true := by induction l with | nil => rfl | cons a l ih => simp only [List.all_cons, ih, Bool.and_self]
theorem rens_append (a b : List PC) : PC.rens s (a ++ b) = PC.rens s a ++ PC.rens s b := by induction a with | nil => rfl | cons x a ih => simp only [List.cons_append, PC.rens, ih]
theorem weaks_append (a b : List PC) : PC.weaks (a ++ b) = PC.weaks a ++ PC.weaks b := by induction a with | nil => rfl | cons x a ih => simp only [List.cons_append, PC.weaks, ih]
theorem frees_append (a b : List PC) : PC.frees (a ++ b) = (PC.frees a && PC.frees b) := by induction a with | nil => rfl | cons x a ih => simp only [List.cons_append, PC.frees, ih, Bool.and_assoc]
theorem stricts_append (a b : List PC) : PC.stricts (a ++ b) = (PC.stricts a && PC.stricts b) := by induction a with | nil => rfl | cons x a ih => simp only [List.cons_append, PC.stricts, ih, Bool.and_assoc]
theorem rens_flatMap : PC.rens s (l.flatMap g) = l.flatMap fun a => PC.rens s (g a) := by induction l with | nil => rfl | cons a l ih => simp only [List.flatMap_cons, rens_append, ih]
theorem weaks_flatMap : PC.weaks (l.flatMap g) = l.flatMap fun a => PC.weaks (g a) := by induction l with | nil => rfl | cons a l ih => simp only [List.flatMap_cons, weaks_append, ih]
theorem frees_flatMap : PC.frees (l.flatMap g) = l.all fun a => PC.frees (g a) := by induction l with | nil => rfl | cons a l ih => simp only [List.flatMap_cons, frees_append, List.all_cons, ih]
theorem stricts_flatMap : PC.stricts (l.flatMap g) = l.all fun a => PC.stricts (g a) := by induction l with | nil => rfl | cons a l ih => simp only [List.flatMap_cons, stricts_append, List.all_cons, ih]
theorem iobs_map (M : List Id) : PC.iobs M s (l.map f) = l.map fun a => (f a).iob M s := by induction l with | nil => rfl | cons a l ih => simp only [List.map_cons, PC.iobs, ih]
theorem iocs_map (M : List Id) : PC.iocs M (l.map f) = l.map fun a => (f a).ioc M := by induction l with | nil => rfl | cons a l ih => simp only [List.map_cons, PC.iocs, ih]
theorem tag0s_map : PC.tag0s (l.map f) = l.all fun a => (f a).tag0 := by induction l with | nil => rfl | cons a l ih => simp only [List.map_cons, PC.tag0s, List.all_cons, ih]
theorem iobs_append (M : List Id) (a b : List PC) : PC.iobs M s (a ++ b) = PC.iobs M s a ++ PC.iobs M s b := by induction a with | nil => rfl | cons x a ih => simp only [List.cons_append, PC.iobs, ih]
theorem iocs_append (M : List Id) (a b : List PC) : PC.iocs M (a ++ b) = PC.iocs M a ++ PC.iocs M b := by induction a with | nil => rfl | cons x a ih => simp only [List.cons_append, PC.iocs, ih]
theorem tag0s_append (a b : List PC) : PC.tag0s (a ++ b) = (PC.tag0s a && PC.tag0s b) := by induction a with | nil => rfl | cons x a ih => simp only [List.cons_append, PC.tag0s, ih, Bool.and_assoc]
theorem iobs_flatMap (M : List Id) : PC.iobs M s (l.flatMap g) = l.flatMap fun a => PC.iobs M s (g a) := by induction l with | nil => rfl | cons a l ih => simp only [List.flatMap_cons, iobs_append, ih]
theorem iocs_flatMap (M : List Id) : PC.iocs M (l.flatMap g) = l.flatMap fun a => PC.iocs M (g a) := by induction l with | nil => rfl | cons a l ih => simp only [List.flatMap_cons, iocs_append, ih]
theorem tag0s_flatMap : PC.tag0s (l.flatMap g) = l.all fun a => PC.tag0s (g a) := by induction l with | nil => rfl | cons a l ih => simp only [List.flatMap_cons, tag0s_append, List.all_cons, ih]
theorem clo_flatMap : (l.flatMap g).map (clo H k) = l.flatMap fun a => (g a).map (clo H k) := by induction l with | nil => rfl | cons a l ih => simp only [List.flatMap_cons, List.map_append, ih]
end

theorem pickB_true (a b : Bool) : pickB true a b = a := rfl
theorem pickB_false (a b : Bool) : pickB false a b = b := rfl
theorem pickB_and (v a : Bool) : pickB v a false = (v && a) := by cases v <;> rfl
theorem pickB_or (v b : Bool) : pickB v true b = (v || b) := by cases v <;> rfl
theorem beq_true' (b : Bool) : (b == true) = b := by cases b <;> rfl
theorem beq_false' (b : Bool) : (b == false) = !b := by cases b <;> rfl

attribute [push_cast] anyRunF finF frF HF maskF collectF chgAt reads Upd.chg Upd.v bchg Bool.and_false Bool.false_and Bool.not_not ne_eq not_false_eq_true hold1 hold2 hold3 Option.isSome_some Option.isSome_none Array.getInternal_eq_getElem List.all_cons List.all_nil Option.isNone_none Option.isNone_some beq_self_eq_true iobs_map iocs_map tag0s_map iobs_append iocs_append tag0s_append iobs_flatMap iocs_flatMap tag0s_flatMap vappS St.iod applyC ioChg outId PC.iob PC.iobs PV.iob PV.iobs Blk.iob PC.ioc PC.iocs PV.ioc Blk.ioc PC.tag0 PC.tag0s PV.tag0 tag0B strictBO nodup pos inId hide gets lowOf highOf vrow isNilC vnil List.getElem_toArray List.getElem_cons_zero List.getElem_cons_succ rowZ rens_map weaks_map frees_map stricts_map clo_map all_tt rens_append weaks_append frees_append stricts_append rens_flatMap weaks_flatMap frees_flatMap stricts_flatMap clo_flatMap List.map_append gcond unm mayK mayD mayAdd mayAddK mayRow mayRowK mayPickK mayCall vpick boolOf pickB_true pickB_false pickB_and pickB_or Bool.not_true Bool.not_false Bool.not_or_self Bool.or_not_self Bool.true_or Bool.or_true Bool.false_or Bool.or_false Bool.true_and Bool.and_true beq_true' beq_false' eqScalar eqFieldsT vbinA vconv valK bytesOf isAggT elemT fieldT isBool placesT placeOf vfill List.getElem?_toArray Option.some.injEq
  seqRun opK vAddK addK heapK mvK callK vAdd ev upd_app St.enter Option.map_some Option.map_none Option.bind_some Option.bind_none PV.cells Upd.fresh Upd.app cst List.getElem?_cons_zero List.getElem?_cons_succ List.getElem?_nil
  Option.getD_some Option.getD_none Nat.zero_add and_true true_and if_true if_false behind Blk.cells Blk.kids takeT callOf argsOf List.drop_zero List.drop_succ_cons List.length_cons List.length_nil Nat.le_refl List.take_succ_cons List.take_zero
  cloV clo List.map_cons List.map_nil List.append_nil List.nil_append List.cons_append PV.frees PV.free PC.frees PC.free PC.weak PC.weaks Bool.and_true Bool.true_and Bool.and_self Prod.mk.injEq asB asI asS vbin vbinI vbinS or_self or_false false_or true_or or_true St.called
  bindB_nil bindB_one PV.ren PC.ren PV.rens PC.rens Blk.ren shiftA vun vstore setB partsOf onesOf vlen lenOk vidx vapp baseOf newsOf kill vcut gslot gval dOk St.skip St.of lookF lookH inU resOf pack
  Bool.false_eq_true Nat.succ_ne_zero strictB PV.strict PV.stricts PC.strict PC.stricts splice_zero splice_step splice_skip
end Go.Vm
end

section
namespace Go.Vm
open Go Go.RowKit
set_option linter.unusedVariables false

/-! ### Contracts that the library gives -/
theorem below_drewN' (w : World) (n : Nat) : Below w.heap.size w (w.drewN n) := ⟨rfl, rfl, rfl, Nat.le_refl _, fun _ _ => rfl⟩

def Alike (gw : World) (gb : Nat) (w : World) : Prop := gb ≤ w.heap.size ∧ ∀ g, g < gb → w.heap[g]? = gw.heap[g]?

section
variable {P : Program} {gw : World} {gb : Nat} {f : FuncId} {φ : Id → Option Value} {w : World} {F : Bool → Nat → Prop}

theorem repVs_plain : ∀ (args : List Value) (xs : List Value), repVs φ w F (args.map fun v => .one (.c v)) xs → xs = args
  | [], xs, h => by simpa only [List.map_nil, repVs] using h
  | v :: args, xs, h => by
    simp only [List.map_cons, repVs, repV, rep] at h
    obtain ⟨x, xs', rfl, ⟨rfl, _⟩, h⟩ := h
    rw [repVs_plain args xs' h]

/-- A callee that takes scalars, and hands back what bears no names. -/
theorem vcall_plain (hc : Callable P f) (args : List Value) (r : PV) (h : ∀ w, Alike gw gb w → Calls P f args.toArray w fun e w' => ∃ x, e = .returned x ∧ Below w.heap.size w w' ∧ ∀ F, repV (fun _ => none) w' F r x) :
    VCall P gw gb f (args.map fun v => .one (.c v)) r [] := by
  refine ⟨hc, fun w xs F hgb hgl hlt hr => ?_⟩
  have hx := repVs_plain _ _ hr
  have hxs : xs = args.toArray := by rw [← hx]
  subst hxs
  refine (h w ⟨hgb, hgl⟩).mono fun e w' he => ?_
  obtain ⟨x, rfl, hb, hr'⟩ := he
  exact ⟨x, fun _ => none, fun _ => False, rfl, hb, fun g hg => hg.elim, hr' _, by simp, by simp, by simp, by simp⟩

end
end Go.Vm
end

section
namespace Go.Vm
open Go Go.RowKit
set_option linter.unusedVariables false

/-! ### Calls that are handed blocks of the caller's own -/
def St.enterIO (args : List PV) (Hin : List Blk) : St := ⟨fun t => args[t]?, fun i => if i.1 = 0 then Hin[i.2]? else none, fun _ => false, 1, fun _ => none⟩

def RetOkIO (P : Program) (rs : List ResultVar) (n : Nat) (r : PV) (B : List (Option Blk)) (σ : St) : Prop :=
  ∃ (vs : List PV) (Z : Id → Prop) (G : Id → Id → Prop), resOf P σ rs = some vs ∧ (∀ i i' j, G i j → G i' j → i = i') ∧ (∀ i j j', G i j → G i j' → j = j') ∧ (∀ i j, G i j → j.1 = 0 ∧ (∃ b, B[j.2]? = some (some b)) ∧ (j.2 < n → i = j)) ∧
    ConvV σ.H Z G (pack vs) r ∧ ∀ j b', B[j]? = some (some b') → ∃ i b, G i (0, j) ∧ ¬ Z i ∧ σ.H i = some b ∧ ConvB σ.H Z G b b'

def retIO (P : Program) (rs : List ResultVar) (n : Nat) (r : PV) (B : List (Option Blk)) : Post
  | .normal, σ => RetOkIO P rs n r B σ
  | .ret, σ => RetOkIO P rs n r B σ
  | _, _ => False

section
variable {C : Ctx} {φ φ' : Id → Option Value} {F : Bool → Nat → Prop} {F0 F1 : Nat → Prop} {σ τ : St} {a : Act} {w : World} {P : Program}

theorem vcallIO_of {gw : World} {gb : Nat} {f : FuncId} {fn : Func} {c : Code} {args : List PV} {Hin : List Blk} {r : PV} {B : List (Option Blk)} {n : Nat} (rs : List ResultVar) (hf : P.funcs[f]? = some fn) (hb : fn.body = some c) (hname : (fn.name == "runtime.NumGoroutine") = false) (hnt : fn.ntmps = n)
    (hrs : fn.results.toList = rs) (hn : args.length ≤ n) (hlen : Hin.length ≤ B.length)
    (h : ∀ C : Ctx, C.P = P → C.nt = n → C.gw = gw → C.gb = gb → vwp C c (retIO P rs Hin.length r B) (St.enterIO args Hin)) : VCallIO P gw gb f args Hin r B := by
  subst hnt hrs
  refine ⟨⟨fn, hf, hname, by simp [hb]⟩, hlen, fun w xs F φ0 hgb hgl hlt h0 hh hap hdom hinj hr => ?_⟩
  have hlt0 : ∀ j u g, φ0 (0, j) = some u → blkOf u = some g → g < w.heap.size := by
    intro j u g hu hg
    exact holds_lt (hh j _ (List.getElem?_eq_getElem (hdom j u hu))) hu hg
  let C₀ : Ctx := ⟨⟨P, fn.ntmps, gw, gb⟩, w, fun g => g < w.heap.size ∧ ¬ Handed φ0 g, F, φ0, none, [], #[], fun g hg => ⟨hlt g hg, fun ⟨j, u, hu, hb⟩ => (hap j u g hu hb).1 hg⟩, fun g hg => ⟨Nat.lt_of_lt_of_le hg hgb, fun ⟨j, u, hu, hb⟩ => Nat.not_lt.2 (hap j u g hu hb).2 hg⟩⟩
  have hinit : RelX C₀ φ0 F (fun _ => False) (St.enterIO args Hin) { tmps := xs ++ Array.replicate (fn.ntmps - xs.size) undef, defers := [] } w := by
    have hl := repVs_len _ _ hr
    have hg := repVs_get _ _ hr
    have hs : xs.size = args.length := by simpa using hl
    have hz : ∀ (i : Id) u, φ0 i = some u → ∃ j, i = (0, j) := by
      rintro ⟨i1, i2⟩ u hu
      have := h0 (i1, i2) (by rw [hu]; simp)
      simp only at this
      subst this
      exact ⟨i2, rfl⟩
    refine ⟨?_, rfl, fun t p hp => ?_, fun i b hi => ?_, fun i j u v g _ _ hu hv hg hg' => ?_, fun i u g _ hu hg => ?_, fun g hg => hg.elim, fun g hg => .inl hg, fun g hg => hg.elim, hlt, rfl, rfl, rfl, Nat.le_refl _, fun _ _ => rfl, fun _ h => h.1, hgb, hgl, fun j u hu => hu, Nat.le_refl _, fun i hi => .inl (by simp only [St.enterIO]; have := h0 i hi; omega), fun t p hp => (by cases hp)⟩
    · show (xs ++ Array.replicate (fn.ntmps - xs.size) undef).size = fn.ntmps; simp only [Array.size_append, Array.size_replicate]; omega
    · obtain ⟨v, hv, hr'⟩ := hg t p hp
      refine ⟨v, ?_, hr'⟩
      have hv' : xs[t]? = some v := by simpa using hv
      rw [Array.getElem?_append_left (Array.getElem?_eq_some_iff.1 hv').1]
      exact hv'
    · simp only [St.enterIO] at hi
      split at hi
      · rename_i hi0
        obtain ⟨i1, i2⟩ := i
        simp only at hi0
        subst hi0
        exact hh i2 b hi
      · cases hi
    · obtain ⟨i2, rfl⟩ := hz i u hu
      obtain ⟨j2, rfl⟩ := hz j v hv
      rw [hinj i2 j2 u v g hu hv hg hg']
    · obtain ⟨i2, rfl⟩ := hz i u hu
      exact ⟨(hap i2 u g hu hg).1, fun hk => hk.2 ⟨i2, u, hu, hg⟩, (hap i2 u g hu hg).2⟩
  refine callsIn_wide.1 (callsIn_of_wp_marks (F := fz C₀) (n := 0) hf hb trivial (wpIn_mono (h C₀ rfl rfl rfl rfl C₀ (.refl _) _ _ ⟨_, _, _, hinit⟩) ?_))
  rintro e a' w₁ ⟨C₂, σ', l, ⟨φ, F0, F1, hR₁⟩, hq⟩
  have back : ∀ R : Ending → World → Prop, (∀ w' df, RelX { C₀ with df := df } φ F0 F1 σ' a' w' → ∃ v, (results fn a'.tmps).run P w' = .ok v w' ∧ R (.returned v) w') → LeavesInM (fz C₀) 0 P fn a'.tmps R a'.defers .returning w₁ := by
    intro R hR
    obtain ⟨rs, e1, e2, e3⟩ := l.df
    rw [hR₁.defs, e1, show C₀.df = [] from rfl, List.append_nil]
    refine leaves_marks rs w₁ e2 (fun r hr => (hR₁.kept r (e3 r hr).2.2.1).trans (e3 r hr).2.2.2) fun w' hos htp hout hsz hw => ?_
    refine hR w' C₂.df (hR₁.turn l (· ∈ rs) (fun g hg => ?_) hos htp hout (Nat.le_of_eq hsz.symm) (fun g _ hg => hw g hg) (fun g hg hs => ?_) hgb)
    · obtain ⟨h1, h2, h3, h4⟩ := e3 g hg
      refine ⟨fun h0 => ?_, ?_, fun i u hi hu hg' => (hR₁.apart i u g hi hu hg').2.1 h3⟩
      · rcases hR₁.ini g h0 with h5 | h5
        · rw [l.Fi] at h5
          have := hlt g h5
          have h1 : w.heap.size ≤ g := h1
          omega
        · exact hR₁.new1 g h5 h3
      · rw [show C₂.gb = C₀.gb from by rw [show C₂.gb = C₂.toCore.gb from rfl, l.core]]
        exact Nat.le_trans hgb h1
    · have h1 : w.heap.size ≤ g := (e3 g hs).1
      have hg : g < w.heap.size := hg.1
      omega
  have main : ∀ w' df, RelX { C₀ with df := df } φ F0 F1 σ' a' w' → RetOkIO P fn.results.toList Hin.length r B σ' → ∃ v, (results fn a'.tmps).run P w' = .ok v w' ∧ ∃ (x : Value) (ψ : Id → Option Value) (X : Nat → Prop), Ending.returned v = .returned x ∧ w'.os = w.os ∧ w'.tape = w.tape ∧ w'.output = w.output ∧ w.heap.size ≤ w'.heap.size ∧
      (∀ g, g < w.heap.size → ¬ Handed φ0 g → w'.heap[g]? = w.heap[g]?) ∧ (∀ g, X g → (w.heap.size ≤ g ∨ Handed φ0 g) ∧ g < w'.heap.size) ∧
      repV ψ w' (Fs (fun g => F g ∨ X g) X) r x ∧ (∀ j b, B[j]? = some (some b) → holds ψ w' (Fs (fun g => F g ∨ X g) X) (0, j) b) ∧ (∀ i, ψ i ≠ none → i.1 = 0) ∧
      (∀ j u, ψ (0, j) = some u → ∃ b, B[j]? = some (some b)) ∧
      (∀ j u g, ψ (0, j) = some u → blkOf u = some g → (w.heap.size ≤ g ∨ Handed φ0 g) ∧ ¬ X g) ∧
      (∀ j k u v g, ψ (0, j) = some u → ψ (0, k) = some v → blkOf u = some g → blkOf v = some g → j = k) ∧
      (∀ j u, j < Hin.length → ψ (0, j) = some u → φ0 (0, j) = some u) := by
    rintro w' df hR ⟨vs, Z, G, hvs, hG1, hG2, hG0, hcv, hB⟩
    obtain ⟨xs', hrun, hreps⟩ := results_run hR _ vs hvs
    have hx := pack_rep hreps
    obtain ⟨χ, hχ⟩ := exists_names G hG1 φ
    obtain ⟨φ', F0', F1', hT, hV, hφ'⟩ := hR.conv (τ := ⟨fun _ => none, fun j => if j.1 = 0 then (B[j.2]?).join else none, fun _ => false, 1, fun _ => none⟩) Z G hG1 hG2 (fun t p' hp => by cases hp) (fun t p' hp => by cases hp)
      (fun j b' hj => by
        simp only at hj
        split at hj
        · rename_i h0
          obtain ⟨j1, j2⟩ := j
          simp only at h0
          subst h0
          refine hB j2 b' ?_
          simp only at hj
          cases hb' : B[j2]? with
          | none => rw [hb'] at hj; cases hj
          | some o => rw [hb'] at hj; simp at hj; rw [hj]
        · cases hj)
      (fun i j hg => .inl (by have := (hG0 i j hg).1; simp only; omega)) (Nat.le_refl _) χ (fun i j u hg _ hu => (hχ j u).2 ⟨i, hg, hu⟩)
    have hF : ∀ t g, Fs F0' F1' t g → Fs (fun g => F g ∨ F1' g) F1' t g := by
      intro t g hg
      cases t
      · exact hT.ini g hg
      · exact hg
    have hH : ∀ j u, φ' (0, j) = some u → ∃ b, B[j]? = some (some b) := by
      intro j u hu
      obtain ⟨i, hg, _⟩ := (hφ' _ u).1 hu
      exact (hG0 i _ hg).2.1
    have hk : ∀ g, ¬ (g < w.heap.size ∧ ¬ Handed φ0 g) → w.heap.size ≤ g ∨ Handed φ0 g := by
      intro g hg
      by_cases h1 : g < w.heap.size
      · right
        apply Classical.byContradiction
        intro h2
        exact hg ⟨h1, h2⟩
      · left; omega
    refine ⟨_, ?_, _, φ', F1', rfl, hR.os, hR.tape, hR.output, hR.big, fun g hg hng => hR.kept g ⟨hg, hng⟩, fun g hg => ⟨hk g (hT.new1 g hg), hT.lt0 g (hT.sub g hg)⟩,
      repV_mono (fun _ _ e => e) (fun _ _ _ => rfl) hF _ _ (hV _ _ _ hcv hx), fun j b hj => ?_, fun i hi => ?_, hH, fun j u g hu hg => ?_, fun j k u v g hu hv hg hg' => ?_, fun j u hj hu => ?_⟩
    · unfold results
      simp only [Array.mapM_eq_mapM_toList]
      simp only [map_eq_pure_bind, Sem.run_bind, Sem.run_pure]
      have key : ∀ m : Sem (List Value), m.run P w' = .ok xs' w' → ((m.run P w').andThen fun a w' => Result.ok a.toArray w').andThen (fun a w' => Result.ok (if h : a.size = 1 then a[0] else Value.tuple a) w') =
          Result.ok (if h : xs'.toArray.size = 1 then xs'.toArray[0] else Value.tuple xs'.toArray) w' := by
        intro m hm; rw [hm]; rfl
      exact key _ hrun
    · exact holds_mono (hT.heap (0, j) b (by simp [hj])) (fun _ _ e => e) hF (fun _ _ _ => rfl) (fun _ _ _ _ => rfl)
    · obtain ⟨u, hu⟩ := Option.ne_none_iff_exists'.1 hi
      obtain ⟨i', hg, _⟩ := (hφ' _ u).1 hu
      exact (hG0 i' _ hg).1
    · obtain ⟨b, hb'⟩ := hH j u hu
      obtain ⟨h1, h2, _⟩ := hT.apart (0, j) u g (by simp [hb']) hu hg
      exact ⟨hk g h2, fun hx => h1 (hT.sub g hx)⟩
    · obtain ⟨b, hb'⟩ := hH j u hu
      obtain ⟨b2, hb2'⟩ := hH k v hv
      have := hT.inj (0, j) (0, k) u v g (by simp [hb']) (by simp [hb2']) hu hv hg hg'
      simpa using this
    · obtain ⟨i, hg, hu'⟩ := (hφ' _ u).1 hu
      have := (hG0 i _ hg).2.2 hj
      subst this
      exact hR.keep j u hu'
  cases e
  case normal => exact back _ fun w' df hR => main w' df hR hq
  case ret => exact back _ fun w' df hR => main w' df hR hq
  all_goals exact hq.elim
end

section
variable {C : Ctx} {φ : Id → Option Value} {F0 F1 : Nat → Prop} {σ : St} {a : Act} {w : World} {P : Program}

end
attribute [push_cast] St.enterIO
end Go.Vm
end

section
namespace Go.Vm
open Go Go.RowKit
set_option linter.unusedVariables false

section
variable {α : Type} {l : List α} {i : Int}
end

section
variable {α : Type} [Inhabited α] {l : List α} {i : Int}
end

/-! ### A row that is filled from its head on -/
section
variable {α : Type} {f : α → PC} {z x y : PC} {l : List α} {k : Nat}
end

/-! ### Strings of bytes -/
def bOf (l : List UInt8) : ByteArray := ⟨l.toArray⟩
end Go.Vm
end

section
namespace Go.Vm
open Go Go.RowKit
set_option linter.unusedVariables false
set_option linter.unusedSimpArgs false

/-! ### Ranges over functions -/

/-- The heap of W' is that of W, but for what may have turned. -/
structure Turned (S : Nat → Prop) (W W' : World) : Prop where
  os : W'.os = W.os
  tape : W'.tape = W.tape
  output : W'.output = W.output
  size : W.heap.size ≤ W'.heap.size
  heap : ∀ g, g < W.heap.size → ¬ S g → W'.heap[g]? = W.heap[g]?

theorem Turned.refl (S : Nat → Prop) (W : World) : Turned S W W := ⟨rfl, rfl, rfl, Nat.le_refl _, fun _ _ _ => rfl⟩
theorem Turned.trans {S S' S'' : Nat → Prop} {W W' W'' : World} (h : Turned S W W') (h' : Turned S' W' W'') (h1 : ∀ g, g < W.heap.size → S g → S'' g) (h2 : ∀ g, g < W.heap.size → S' g → S'' g) : Turned S'' W W'' :=
  ⟨h'.os.trans h.os, h'.tape.trans h.tape, h'.output.trans h.output, Nat.le_trans h.size h'.size, fun g hg hs =>
    (h'.heap g (Nat.lt_of_lt_of_le hg h.size) fun e => hs (h2 g hg e)).trans (h.heap g hg fun e => hs (h1 g hg e))⟩

/-- WHAT AN ITERATOR (the function f; it has captured the boxes bx) GIVES, ONE AFTER THE OTHER: xs. Y: the blocks that belong to the loop's side. -/
structure VIter (P : Program) (gw : World) (gb : Nat) (f : FuncId) (bx : List (TypeId × List Value)) (xs : List (List Value)) : Prop where
  callable : Callable P f
  one : ∀ x ∈ xs, ∀ v ∈ x, v.oneCell' = true
  run : ∀ (w : World) (bs : List Nat) (l : Nat) (J Jx : Nat → (Nat → Prop) → World → Prop) (Y0 : Nat → Prop), gb ≤ w.heap.size → (∀ g, g < gb → w.heap[g]? = gw.heap[g]?) →
    bs.length = bx.length → bs.Nodup → (∀ (j g : Nat) (b : TypeId × List Value), bs[j]? = some g → bx[j]? = some b → w.heap[g]? = some (Obj.cells b.2.toArray b.1 (0, 0))) → (∀ g ∈ bs, gb ≤ g ∧ g < w.heap.size ∧ g ≠ l) → l < w.heap.size → gb ≤ l →
    (∀ k Y W, J k Y W → ∀ g, Y g → g < W.heap.size ∧ g ∉ bs ∧ gb ≤ g) →
    (∀ k Y W W', J k Y W → Turned (fun g => g ∈ bs ∨ (w.heap.size ≤ g ∧ ¬ Y g)) W W' → J k Y W') →
    (∀ k Y W W', Jx k Y W → Turned (fun g => g ∈ bs ∨ (w.heap.size ≤ g ∧ ¬ Y g)) W W' → Jx k Y W') →
    (∀ k Y W x, xs[k]? = some x → J k Y W → w.heap.size ≤ W.heap.size → YieldAt Fence.wide 0 P l x.toArray W fun e W' => Turned (fun g => Y g ∨ g = l) W W' ∧ ∃ Y', (∀ g, Y' g → Y g ∨ W.heap.size ≤ g) ∧
      ((e = .returned (.bool true) ∧ J (k + 1) Y' W') ∨ (e = .returned (.bool false) ∧ Jx (k + 1) Y' W'))) →
    J 0 Y0 w → CallsIn Fence.wide 0 P f (#[.func (.yield l) #[] #[]] ++ (bs.map fun g => Value.pointer (some ⟨g, 0, none⟩)).toArray) w fun e w' => (∃ v, e = .returned v) ∧ ((∃ Y, J xs.length Y w') ∨ ∃ k Y, Jx k Y w')

section
variable {C : Ctx} {φ : Id → Option Value} {F0 F1 : Nat → Prop} {σ τ : St} {a : Act} {w w' : World} {l r w0 : Nat} {bs : List Nat} {Y : Nat → Prop} {W W' : World}

def Own (φ : Id → Option Value) (τ : St) (g : Nat) : Prop := ∃ i u, τ.H i ≠ none ∧ φ i = some u ∧ blkOf u = some g

/-- What the loop's side holds between two rounds. -/
structure Held (C : Ctx) (a : Act) (l r w0 : Nat) (bs : List Nat) (φ : Id → Option Value) (F0 F1 : Nat → Prop) (τ : St) (Y : Nat → Prop) (W : World) : Prop where
  rel : RelX C φ F0 F1 τ a W
  own : ∀ g, Own φ τ g → Y g
  f1 : ∀ g, F1 g → Y g
  y : ∀ g, Y g → g < W.heap.size ∧ g ≠ l ∧ g ≠ r ∧ ¬ C.K0 g ∧ g ∉ bs ∧ C.gb ≤ g
  big : w0 ≤ W.heap.size

end
end Go.Vm
end

section
namespace Go.Vm
open Go Go.RowKit
set_option linter.unusedVariables false

/-! ### What an operation comes to, computed -/
abbrev Cx := FuncId → List PV → Option (PV × List Blk)
/-- Calls that are handed blocks; which functions are handed the caller's rows too. -/
structure Io where
  run : FuncId → List PV → List Blk → Option (PV × List (Option Blk))
  md : FuncId → Option Bool

def valO (nt : Nat) (d : Option Nat) (p : PV) : Option Upd :=
  match d with
  | none => none
  | some d => if d < nt then some (.val (some d) p) else none
def addO (nt : Nat) (d : Option Nat) : Option (PV × Option Blk) → Option Upd
  | some (p, none) =>
    match d with
    | none => some (.val none p)
    | some d => if d < nt then some (.val (some d) p) else none
  | some (p, some b) =>
    match d with
    | none => none
    | some d => if d < nt then some (.new d p b) else none
  | none => none
def vAddO (P : Program) (nt nx : Nat) (ρ : Operand → Option PV) (H : Id → Option Blk) (d : Option Nat) (op : Op) : Option Upd :=
  addO nt d (vAll P (nx + d.getD 0, 0) ρ H op)
def heapO : Option (Id × Blk) → Option Upd
  | some (i, b) => some (.heap i b)
  | none => none
def mvO (nt : Nat) (d : Option Nat) : Option (Option Id × Blk) → Option Upd
  | some (i, b) =>
    match d with
    | none => none
    | some d => if d < nt then some (.mv d i b) else none
  | none => none

mutual
/-- The blocks that a cell names. -/
def PC.ids : PC → List Id
  | .loc i _ => [i]
  | .vw i _ _ => [i]
  | .own i => [i]
  | .fn _ cs => PC.idss cs
  | .mth _ cs => PC.idss cs
  | .sl _ _ cs => PC.idss cs
  | .at _ cs => PC.idss cs
  | .c _ => []
  | .ifc => []
  | .emp => []
def PC.idss : List PC → List Id
  | [] => []
  | p :: ps => p.ids ++ PC.idss ps
end
/-- The blocks that an argument hands on: not the rows, which are only read. -/
def PC.lent (H : Id → Option Blk) : PC → List Id
  | .own i =>
    match H i with
    | some (.mp _ _) => [i]
    | _ => []
  | p => p.ids
def PV.lent (H : Id → Option Blk) : PV → List Id
  | .one p => p.lent H
  | .agg ps => ps.flatMap (PC.lent H)
  | _ => []
def reach (H : Id → Option Blk) : Nat → List Id → List Id → List Id
  | _, [], acc => acc.reverse
  | 0, _, acc => acc.reverse
  | n + 1, i :: todo, acc =>
    if acc.contains i then reach H n todo acc
    else match H i with
      | some b => reach H n (PC.idss b.kids ++ todo) (i :: acc)
      | none => reach H n todo (i :: acc)

def PV.idAll : PV → List Id
  | .one p => p.ids
  | .agg ps => PC.idss ps
  | _ => []
def lentOf (all : Bool) (H : Id → Option Blk) (ps : List PV) : List Id :=
  match all with
  | true => ps.flatMap PV.idAll
  | false => ps.flatMap (PV.lent H)
def ioO (all : Bool) (io : Io) (f : FuncId) (d : Nat) (ps : List PV) (H : Id → Option Blk) : Option Upd :=
  let M := reach H 100000 (lentOf all H ps) []
  match gets H M with
  | none => none
  | some bs =>
    let args := ps.map fun p => (cloV (hide M H) 4 p).ioc M
    let Hin := bs.map (Blk.ioc M)
    if (args.all PV.tag0 && tag0B Hin && nodup M) = true then
      match io.run f args Hin with
      | some (r, B) => if (r.strict && strictBO B) = true ∨ (ps.map (PV.ioc M)).all PV.tag0 = true then some (.io d M r B) else none
      | none => none
    else none

def callO (cx : Cx) (io : Io) (nt : Nat) (H : Id → Option Blk) (d : Option Nat) : Option (FuncId × List PV) → Option Upd
  | some (f, ps) =>
    match d with
    | none => none
    | some d =>
      if d < nt then
        match io.md f with
        | some b => ioO b io f d ps H
        | none =>
          if PV.frees (ps.map (cloV H 4)) = true then
            match cx f (ps.map (cloV H 4)) with
            | some (r, B) => if (r.strict && strictB B) = true ∨ PV.frees ps = true then some (.call d r B) else none
            | none => none
          else ioO true io f d ps H
      else none
  | none => none

def opO (P : Program) (nt : Nat) (cx : Cx) (io : Io) (nx : Nat) (ρ : Operand → Option PV) (H : Id → Option Blk) (d : Option Nat) (op : Op) : Option Upd :=
  match op with
  | .call c =>
    match c.callee with
    | .value _ => callO cx io nt H d (callOf ρ c)
    | .builtin .append =>
      match appE P ρ H c with
      | some none => valO nt d (.one .emp)
      | some (some b) => mvO nt d (some (none, b))
      | none => mvO nt d (vapp P ρ H c)
    | _ => vAddO P nt nx ρ H d op
  | .store t x y =>
    match d with
    | none => heapO (vstore P ρ H t x y)
    | some _ => none
  | .mapUpdate t m k x =>
    match d with
    | none => heapO (vmapAll P ρ H t m k x)
    | some _ => none
  | .insert t m k x =>
    match d with
    | none => heapO (vmapAll P ρ H t m k x)
    | some _ => none
  | .pick c x y =>
    match vpick true ρ c x y with
    | some b => valO nt d (.one (.c (.bool b)))
    | none => none
  | .binOp bop t x y _ =>
    match isNilC y with
    | true =>
      match vnil P bop t (ρ x) with
      | some b => valO nt d (.one (.c (.bool b)))
      | none => none
    | false => vAddO P nt nx ρ H d op
  | .convert s t x =>
    match vconv P ρ H s t x with
    | some b => valO nt d (.one (.c (.string b)))
    | none => vAddO P nt nx ρ H d op
  | .slice t x lo hi mx =>
    match ρ x, mx with
    | some (.one (.sl b n xs)), none =>
      match vrow P ρ t b n xs lo hi with
      | some p => valO nt d p
      | none => none
    | some (.one (.own _)), _ =>
      match vcut P ρ H op with
      | some x => mvO nt d (some (some x.1, x.2))
      | none => vAddO P nt nx ρ H d op
    | _, _ => vAddO P nt nx ρ H d op
  | _ => vAddO P nt nx ρ H d op

/-- The contracts that the evaluator may use. -/
structure Knows (P : Program) (gw : World) (gb : Nat) (cx : Cx) (io : Io) : Prop where
  cx : ∀ f args r B, cx f args = some (r, B) → VCall P gw gb f args r B
  io : ∀ f args Hin r B, io.run f args Hin = some (r, B) → VCallIO P gw gb f args Hin r B

section
variable {C : Core} {cx : Cx} {io : Io} {nt nx : Nat} {ρ : Operand → Option PV} {H : Id → Option Blk} {d : Option Nat} {op : Op} {U : Upd} {K : Upd → Prop}

theorem valO_ok {p : PV} (h : valO nt d p = some U) (hK : K U) : valK nt d K p := by
  unfold valO at h
  unfold valK
  cases d with
  | none => cases h
  | some d =>
    simp only at h ⊢
    split at h
    · cases h; exact ⟨‹_›, hK⟩
    · cases h
theorem addO_ok {o : Option (PV × Option Blk)} (h : addO nt d o = some U) (hK : K U) : addK nt d K o := by
  unfold addO at h
  unfold addK
  split at h
  · split at h
    · cases h; exact hK
    · split at h
      · cases h; exact ⟨‹_›, hK⟩
      · cases h
  · split at h
    · cases h
    · split at h
      · cases h; exact ⟨‹_›, hK⟩
      · cases h
  · cases h
theorem heapO_ok {o : Option (Id × Blk)} (h : heapO o = some U) (hK : K U) : heapK K o := by
  unfold heapO at h
  unfold heapK
  split at h
  · cases h; exact hK
  · cases h
theorem mvO_ok {o : Option (Option Id × Blk)} (h : mvO nt d o = some U) (hK : K U) : mvK nt d K o := by
  unfold mvO at h
  unfold mvK
  split at h
  · split at h
    · cases h
    · split at h
      · cases h; exact ⟨‹_›, hK⟩
      · cases h
  · cases h
theorem ioO_ok (hk : Knows C.P C.gw C.gb cx io) {all : Bool} {f : FuncId} {ps : List PV} {d : Nat} (h : ioO all io f d ps H = some U) (hK : K U) : ioE C.P C.gw C.gb f ps H (hold (fun M r B => K (.io d M r B)) (tok _)) := by
  unfold ioO at h
  simp only at h
  split at h
  · cases h
  · rename_i bs hb
    split at h
    · rename_i ht
      split at h
      · rename_i r B hc
        split at h
        · rename_i hs
          cases h
          refine ioE_intro _ (hk.io _ _ _ _ _ hc) hb rfl rfl ht ?_ hK
          rcases hs with hs | hs
          · left
            rwa [Bool.and_eq_true] at hs
          · exact .inr hs
        · cases h
      · cases h
    · cases h
theorem callO_ok (hk : Knows C.P C.gw C.gb cx io) {o : Option (FuncId × List PV)} (h : callO cx io C.nt H d o = some U) (hK : K U) : callK C H d K o := by
  unfold callO at h
  unfold callK
  split at h
  · rename_i f ps
    split at h
    · cases h
    · rename_i d
      split at h
      · rename_i hd
        refine ⟨hd, ?_⟩
        split at h
        · exact .inr (ioO_ok hk h hK)
        · split at h
          · rename_i hf
            left
            refine ⟨hf, ?_⟩
            split at h
            · rename_i r B hc
              split at h
              · rename_i hs
                cases h
                refine callE_intro (hk.cx _ _ _ _ hc) ?_ hK
                rcases hs with hs | hs
                · left
                  rwa [Bool.and_eq_true] at hs
                · exact .inr hs
              · cases h
            · cases h
          · exact .inr (ioO_ok hk h hK)
      · cases h
  · cases h
theorem opO_ok (hk : Knows C.P C.gw C.gb cx io) (h : opO C.P C.nt cx io nx ρ H d op = some U) (hK : K U) : opK C nx ρ H d op K := by
  cases op
  case call c =>
    simp only [opO] at h; simp only [opK]
    split at h
    · rename_i hc; simp only [hc]; exact callO_ok hk h hK
    · rename_i hc; simp only [hc]
      split at h
      · rename_i he; simp only [he]; exact valO_ok h hK
      · rename_i b he; simp only [he]; exact mvO_ok h hK
      · rename_i he; simp only [he]; exact mvO_ok h hK
    · rename_i h1 h2
      split
      · rename_i hc; exact absurd hc (h1 _)
      · rename_i hc; exact absurd hc h2
      · exact addO_ok h hK
  case store t x y =>
    simp only [opO] at h; simp only [opK]
    cases d with
    | none => exact heapO_ok h hK
    | some _ => cases h
  case mapUpdate t m k x =>
    simp only [opO] at h; simp only [opK]
    cases d with
    | none => exact heapO_ok h hK
    | some _ => cases h
  case insert t m k x =>
    simp only [opO] at h; simp only [opK]
    cases d with
    | none => exact heapO_ok h hK
    | some _ => cases h
  case pick c x y =>
    simp only [opO] at h; simp only [opK]
    cases hv : vpick true ρ c x y with
    | none => rw [hv] at h; cases h
    | some b => rw [hv] at h; exact valO_ok h hK
  case binOp bop t x y ty =>
    simp only [opO] at h; simp only [opK]
    cases hn : isNilC y with
    | true =>
      simp only [hn] at h
      cases hv : vnil C.P bop t (ρ x) with
      | none => rw [hv] at h; cases h
      | some b => rw [hv] at h; exact valO_ok h hK
    | false => simp only [hn] at h; exact addO_ok h hK
  case convert s t x =>
    simp only [opO] at h; simp only [opK]
    cases hv : vconv C.P ρ H s t x with
    | none => rw [hv] at h; exact addO_ok h hK
    | some b => rw [hv] at h; exact valO_ok h hK
  case slice t x lo hi mx =>
    simp only [opO] at h; simp only [opK]
    split at h
    · rename_i hx
      simp only [hx]
      split at h
      · rename_i hv; simp only [hv]; exact valO_ok h hK
      · cases h
    · rename_i hx; simp only [hx]
      split at h
      · rename_i q hq; simp only [hq]; exact mvO_ok h hK
      · rename_i hq; simp only [hq]; exact addO_ok h hK
    · rename_i h1 h2
      split
      · rename_i hx; exact (‹∀ (b : Bool) (n : Nat) (xs : List PC), ρ x = some (PV.one (PC.sl b n xs)) → _ → False› _ _ _ hx rfl).elim
      · rename_i hx; exact (‹∀ (i : Id), ρ x = some (PV.one (PC.own i)) → False› _ hx).elim
      · exact addO_ok h hK
  all_goals
    simp only [opO] at h; simp only [opK]
    exact addO_ok h hK
end
end Go.Vm
end

section
namespace Go.Vm
open Go Go.RowKit
set_option linter.unusedVariables false

/-! ### States that are computed with -/
inductive Tr (α : Type) where
  | leaf
  | node (l : Tr α) (v : Option α) (r : Tr α)
namespace Tr
variable {α : Type}
def get : Tr α → Nat → Option α
  | .leaf, _ => none
  | .node l v r, n => if n = 0 then v else if n % 2 = 1 then l.get (n / 2) else r.get (n / 2 - 1)
def left : Tr α → Tr α
  | .leaf => .leaf
  | .node l _ _ => l
def mid : Tr α → Option α
  | .leaf => none
  | .node _ v _ => v
def right : Tr α → Tr α
  | .leaf => .leaf
  | .node _ _ r => r
def set : Nat → Tr α → Nat → Option α → Option (Tr α)
  | 0, _, _, _ => none
  | f + 1, t, n, v =>
    if n = 0 then some (.node t.left v t.right)
    else if n % 2 = 1 then
      match set f t.left (n / 2) v with
      | some l => some (.node l t.mid t.right)
      | none => none
    else
      match set f t.right (n / 2 - 1) v with
      | some r => some (.node t.left t.mid r)
      | none => none
theorem get_eq (t : Tr α) (n : Nat) : t.get n = if n = 0 then t.mid else if n % 2 = 1 then t.left.get (n / 2) else t.right.get (n / 2 - 1) := by
  cases t with
  | leaf => simp [get, mid, left, right]
  | node l v r => rfl
theorem get_set : ∀ {f : Nat} {t t' : Tr α} {n : Nat} {v : Option α}, t.set f n v = some t' → ∀ m, t'.get m = if m = n then v else t.get m
  | 0, t, t', n, v, h, m => by cases h
  | f + 1, t, t', n, v, h, m => by
    rw [get_eq t m]
    unfold set at h
    split at h
    · rename_i h0
      cases h
      subst h0
      show (if m = 0 then v else _) = _
      by_cases hm : m = 0
      · simp [hm]
      · simp [hm]
    · rename_i h0
      split at h
      · rename_i h1
        split at h
        · rename_i l hl
          cases h
          have ih := get_set hl (m / 2)
          show (if m = 0 then t.mid else if m % 2 = 1 then l.get (m / 2) else t.right.get (m / 2 - 1)) = _
          by_cases hmn : m = n
          · subst hmn
            simp [h0, h1, ih]
          · rw [if_neg hmn]
            by_cases hm0 : m = 0
            · rw [if_pos hm0, if_pos hm0]
            · rw [if_neg hm0, if_neg hm0]
              by_cases hm1 : m % 2 = 1
              · rw [if_pos hm1, if_pos hm1, ih, if_neg (by omega)]
              · rw [if_neg hm1, if_neg hm1]
        · cases h
      · rename_i h1
        split at h
        · rename_i r hr
          cases h
          have ih := get_set hr (m / 2 - 1)
          show (if m = 0 then t.mid else if m % 2 = 1 then t.left.get (m / 2) else r.get (m / 2 - 1)) = _
          by_cases hmn : m = n
          · subst hmn
            simp [h0, h1, ih]
          · rw [if_neg hmn]
            by_cases hm0 : m = 0
            · rw [if_pos hm0, if_pos hm0]
            · rw [if_neg hm0, if_neg hm0]
              by_cases hm1 : m % 2 = 1
              · rw [if_pos hm1, if_pos hm1]
              · rw [if_neg hm1, if_neg hm1, ih, if_neg (by omega)]
        · cases h
end Tr

structure S where
  fr : Tr PV
  H : Tr (Tr Blk)
  us : Tr Unit
  nx : Nat
  al : Bool
def getH (H : Tr (Tr Blk)) (i : Id) : Option Blk :=
  match H.get i.1 with
  | some t => t.get i.2
  | none => none
def S.abs (s : S) : St := ⟨s.fr.get, getH s.H, fun d => (s.us.get d).isSome, s.nx, fun _ => none⟩

def setH (H : Tr (Tr Blk)) (i : Id) (b : Option Blk) : Option (Tr (Tr Blk)) :=
  match ((H.get i.1).getD .leaf).set 64 i.2 b with
  | some t => H.set 64 i.1 (some t)
  | none => none
theorem getH_setH {H H' : Tr (Tr Blk)} {i : Id} {b : Option Blk} (h : setH H i b = some H') : getH H' = upd (getH H) i b := by
  unfold setH at h
  split at h
  · rename_i t ht
    funext j
    have h1 := Tr.get_set h j.1
    have h2 := Tr.get_set ht j.2
    show (match H'.get j.1 with | some t => t.get j.2 | none => none) = if j = i then b else (match H.get j.1 with | some t => t.get j.2 | none => none)
    rw [h1]
    by_cases hj : j.1 = i.1
    · rw [if_pos hj]
      show t.get j.2 = _
      rw [h2]
      by_cases hj2 : j.2 = i.2
      · rw [if_pos hj2, if_pos (Prod.ext hj hj2)]
      · rw [if_neg hj2, if_neg (fun e => hj2 (by rw [e])), hj]
        cases H.get i.1 <;> rfl
    · rw [if_neg hj, if_neg (fun e => hj (by rw [e]))]
  · cases h
def chgH : Tr (Tr Blk) → List (Id × Option Blk) → Option (Tr (Tr Blk))
  | H, [] => some H
  | H, c :: L =>
    match setH H c.1 c.2 with
    | some H' => chgH H' L
    | none => none
theorem getH_chgH : ∀ {L : List (Id × Option Blk)} {H H' : Tr (Tr Blk)}, chgH H L = some H' → getH H' = applyC (getH H) L
  | [], H, H', h => by cases h; rfl
  | c :: L, H, H', h => by
    unfold chgH at h
    split at h
    · rename_i H1 h1
      rw [getH_chgH h, getH_setH h1]; rfl
    · cases h

def S.app (s : S) (U : Upd) : Option S :=
  match (match U.dst with | some d => s.fr.set 64 d (U.v s.nx) | none => some s.fr), chgH s.H (U.chg s.nx), (match U.tag with | some d => s.us.set 64 d (some ()) | none => some s.us) with
  | some fr, some H, some us => some ⟨fr, H, us, s.nx, s.al || U.tag.isSome⟩
  | _, _, _ => none
theorem S.app_ok {s s' : S} {U : Upd} (h : s.app U = some s') : s'.abs = U.app s.abs := by
  unfold S.app at h
  split at h
  · rename_i fr H us h1 h2 h3
    cases h
    have e2 : getH H = (U.app s.abs).H := by rw [app_H]; exact getH_chgH h2
    have e1 : fr.get = (U.app s.abs).fr := by
      cases U with
      | val d p =>
        cases d with
        | none => cases h1; rfl
        | some d => funext m; rw [Tr.get_set h1 m]; rfl
      | heap i b => cases h1; rfl
      | _ => funext m; rw [Tr.get_set h1 m]; rfl
    have e3 : (fun d => (us.get d).isSome) = (U.app s.abs).us := by
      cases U with
      | val d p =>
        cases h3
        cases d <;> rfl
      | heap i b => cases h3; rfl
      | _ =>
        funext m
        have hu := Tr.get_set h3 m
        show (us.get m).isSome = if m = _ then true else (s.us.get m).isSome
        rw [hu]
        split <;> rfl
    have e4 : s.nx = (U.app s.abs).nx := by
      cases U with
      | val d p => cases d <;> rfl
      | _ => rfl
    have e5 : (fun _ => none) = (U.app s.abs).gh := by
      cases U with
      | val d p => cases d <;> rfl
      | _ => rfl
    show (⟨fr.get, getH H, fun d => (us.get d).isSome, s.nx, fun _ => none⟩ : St) = U.app s.abs
    rw [e1, e2, e3, e5]
    conv => lhs; rw [e4]
  · cases h
def freshB (s : S) (U : Upd) : Bool :=
  match U.tag with
  | some d => !(s.us.get d).isSome
  | none => true
theorem freshB_ok {s : S} {U : Upd} (h : freshB s U = true) : U.fresh s.abs := by
  unfold freshB at h
  cases U <;> simp only [Upd.tag] at h <;> first | trivial | (show (s.us.get _).isSome = false; simpa using h)
end Go.Vm
end

section
namespace Go.Vm
open Go Go.RowKit
set_option linter.unusedVariables false

/-! ### Regions, computed -/
def dOkB (nt : Nat) : Option Nat → Bool
  | none => true
  | some d => decide (d < nt)
def S.skip (s : S) : Option Nat → Option S
  | none => some s
  | some d =>
    match s.fr.set 64 d (some (.tup [])) with
    | some fr => some { s with fr := fr }
    | none => none
theorem S.skip_ok {s s' : S} {d : Option Nat} (h : s.skip d = some s') : s'.abs = s.abs.skip d := by
  cases d with
  | none => cases h; rfl
  | some d =>
    unfold S.skip at h
    simp only at h
    split at h
    · rename_i fr hf
      cases h
      have e : fr.get = upd s.fr.get d (some (.tup [])) := by funext m; rw [Tr.get_set hf m]; rfl
      show (⟨fr.get, getH s.H, fun d => (s.us.get d).isSome, s.nx, fun _ => none⟩ : St) = _
      rw [e]; rfl
    · cases h
theorem dOkB_ok {nt : Nat} {d : Option Nat} (h : dOkB nt d = true) : dOk nt d := by
  cases d with
  | none => trivial
  | some d =>
    have h : decide (d < nt) = true := h
    show d < nt
    exact of_decide_eq_true h

def stepS (P : Program) (nt : Nat) (cx : Cx) (io : Io) (s : S) (d : Option Nat) (op : Op) : Option S :=
  match opO P nt cx io s.nx (ev s.fr.get) (getH s.H) d op with
  | some U => if freshB s U = true then s.app U else none
  | none => none
def operS (P : Program) (nt : Nat) (cx : Cx) (io : Io) (ops : List Oper) (o : Oper) (s : S) : Option S :=
  match o.guard with
  | none => stepS P nt cx io s o.dst o.op
  | some (g, want) =>
    match gslot ops s.fr.get g with
    | some v => if v = some want then stepS P nt cx io s o.dst o.op else if dOkB nt o.dst = true then s.skip o.dst else none
    | none => none
def seqS (P : Program) (nt : Nat) (cx : Cx) (io : Io) (ops : List Oper) : List Oper → S → Option S
  | [], s => some s
  | o :: rest, s =>
    match operS P nt cx io ops o s with
    | some s' => seqS P nt cx io ops rest s'
    | none => none

section
variable {C : Core} {cx : Cx} {io : Io}
theorem stepS_ok (hk : Knows C.P C.gw C.gb cx io) {s s' : S} {d : Option Nat} {op : Op} {K : St → Prop} (h : stepS C.P C.nt cx io s d op = some s') (hK : K s'.abs) :
    opK C s.abs.nx (ev s.abs.fr) s.abs.H d op (fun U => U.fresh s.abs ∧ K (U.app s.abs)) := by
  unfold stepS at h
  split at h
  · rename_i U hU
    split at h
    · rename_i hf
      exact opO_ok hk hU ⟨freshB_ok hf, by rw [← S.app_ok h]; exact hK⟩
    · cases h
  · cases h
theorem seqS_ok (hk : Knows C.P C.gw C.gb cx io) {ops : List Oper} {Q : St → Prop} : ∀ {l : List Oper} {s s' : S}, seqS C.P C.nt cx io ops l s = some s' → Q s'.abs → seqRun C ops l s.abs Q
  | [], s, s', h, hQ => by cases h; exact hQ
  | o :: rest, s, s', h, hQ => by
    unfold seqS at h
    split at h
    · rename_i s1 h1
      have ih := seqS_ok hk h hQ
      unfold operS at h1
      unfold seqRun
      split at h1
      · rename_i hg
        rw [hg]
        exact stepS_ok (K := fun σ => seqRun C ops rest σ Q) hk h1 ih
      · rename_i g want hg
        rw [hg]
        split at h1
        · rename_i v hv
          by_cases hw : v = some want
          · subst hw
            rw [if_pos rfl] at h1
            exact guardR_run hv (stepS_ok (K := fun σ => seqRun C ops rest σ Q) hk h1 ih)
          · rw [if_neg hw] at h1
            split at h1
            · rename_i hd
              exact guardR_skip hv hw ⟨dOkB_ok hd, by rw [← S.skip_ok h1]; exact ih⟩
            · cases h1
        · cases h1
    · cases h

/-- What each operation waits for. -/
def depsO : List Oper → List (List Nat) → List (List Nat)
  | [], acc => acc
  | o :: ops, acc => depsO ops (acc ++ [(o.after.toList.flatMap fun e => if Region.binds .any e = true then e.on :: acc.getD e.on [] else []).eraseDups])

def anyS (P : Program) (nt : Nat) (cx : Cx) (io : Io) (s : S) : List Info → List Oper → List Upd → Option (List Upd)
  | [], [], Us => some Us
  | (r, b, dk) :: I, o :: rest, Us =>
    match opO P nt cx io s.nx (ev (frF s.nx s.fr.get Us r)) (HF s.abs Us b dk (reads o.op)) o.dst o.op with
    | some U => if freshB s U = true then anyS P nt cx io s I rest (U :: Us) else none
    | none => none
  | _, _, _ => none
def appsS (s : S) : List Upd → Option S
  | [] => some s
  | U :: Us =>
    match appsS s Us with
    | some s' => s'.app U
    | none => none
theorem appsS_ok {s : S} : ∀ {Us : List Upd} {s' : S}, appsS s Us = some s' → s'.abs = finF s.abs Us
  | [], s', h => by cases h; rfl
  | U :: Us, s', h => by
    unfold appsS at h
    split at h
    · rename_i s1 h1
      rw [S.app_ok h, appsS_ok h1]; rfl
    · cases h
theorem anyS_ok (hk : Knows C.P C.gw C.gb cx io) {ops : List Oper} {D : List (List Nat)} {Q : St → Prop} {s s' : S} : ∀ {I : List Info} {l : List Oper} {Us Vs : List Upd}, anyS C.P C.nt cx io s I l Us = some Vs →
    orderOk ops D Vs.reverse = true → appsS s Vs = some s' → Q s'.abs → anyRunF C ops D s.abs I l Us Q
  | [], [], Us, Vs, h, ho, ha, hQ => by
    cases h
    exact ⟨ho, by rw [← appsS_ok ha]; exact hQ⟩
  | (r, b, dk) :: I, o :: rest, Us, Vs, h, ho, ha, hQ => by
    unfold anyS at h
    split at h
    · rename_i U hU
      split at h
      · rename_i hf
        exact opO_ok hk hU ⟨freshB_ok hf, anyS_ok hk h ho ha hQ⟩
      · cases h
    · cases h
  | [], _ :: _, Us, Vs, h, _, _, _ => by simp [anyS] at h
  | _ :: _, [], Us, Vs, h, _, _, _ => by simp [anyS] at h

def regS (P : Program) (nt : Nat) (cx : Cx) (io : Io) (ops : List Oper) (draw : Bool) (s : S) : Option S :=
  match draw with
  | false => seqS P nt cx io ops ops s
  | true =>
    let D := depsO ops []
    if (depOk ops D && dstsOk ops) = true then
      match anyS P nt cx io s (infoFrom ops D 0 ops.length) ops [] with
      | some Us => if orderOk ops D Us.reverse = true then appsS s Us else none
      | none => none
    else none
end
theorem regS_ok {C : Ctx} {cx : Cx} {io : Io} (hk : Knows C.P C.gw C.gb cx io) (hm : C.P.follows .mixedOrders = true) {id : Nat} {ops : Array Oper} {draw : Bool} {Q : Post} {s s' : S}
    (h : regS C.P C.nt cx io ops.toList draw s = some s') (hQ : Q .normal s'.abs) : vwp C (.region id ops draw) Q s.abs := by
  unfold regS at h
  cases draw with
  | false =>
    have := vwp_regionG (C := C) (ops := ops.toList) (id := id) (Q := Q) (σ := s.abs) (seqS_ok hk h hQ)
    simpa using this
  | true =>
    simp only at h
    split at h
    · rename_i hd
      rw [Bool.and_eq_true] at hd
      split at h
      · rename_i Us hU
        split at h
        · rename_i ho
          have := vwp_anyF (C := C) (ops := ops.toList) (id := id) (Q := Q) (σ := s.abs) _ _ hm hd.1 hd.2 rfl (anyS_ok hk hU ho h hQ)
          simpa using this
        · cases h
      · cases h
    · cases h
end Go.Vm
end

section
namespace Go.Vm
open Go Go.RowKit
set_option linter.unusedVariables false

/-! ### Names anew, computed -/
def lookM (i : Id) : List (Id × Id) → Option Id
  | [] => none
  | (a, b) :: m => if a = i then some b else lookM i m
theorem lookM_mem {i j : Id} : ∀ {m : List (Id × Id)}, lookM i m = some j → (i, j) ∈ m
  | [], h => by cases h
  | (a, b) :: m, h => by
    unfold lookM at h
    split at h
    · rename_i e; cases h; subst e; simp
    · exact List.mem_cons_of_mem _ (lookM_mem h)
mutual
def rnC (m : List (Id × Id)) : PC → Option PC
  | .c v => some (.c v)
  | .ifc => some .ifc
  | .emp => some .emp
  | .sl t n xs =>
    match rnCs m xs with
    | some xs' => some (.sl t n xs')
    | none => none
  | .at t xs =>
    match rnCs m xs with
    | some xs' => some (.at t xs')
    | none => none
  | .loc i off =>
    match lookM i m with
    | some j => some (.loc j off)
    | none => none
  | .vw i off n =>
    match lookM i m with
    | some j => some (.vw j off n)
    | none => none
  | .own i =>
    match lookM i m with
    | some j => some (.own j)
    | none => none
  | .fn f xs =>
    match rnCs m xs with
    | some xs' => some (.fn f xs')
    | none => none
  | .mth f xs =>
    match rnCs m xs with
    | some xs' => some (.mth f xs')
    | none => none
def rnCs (m : List (Id × Id)) : List PC → Option (List PC)
  | [] => some []
  | p :: ps =>
    match rnC m p, rnCs m ps with
    | some p', some ps' => some (p' :: ps')
    | _, _ => none
end
section
variable {H : Id → Option Blk} {Z : Id → Prop} {m : List (Id × Id)}
mutual
theorem rnC_ok : ∀ {p p' : PC}, rnC m p = some p' → Conv H Z (fun i j => (i, j) ∈ m) p p'
  | .c v, p', h => by unfold rnC at h; cases h; exact .free rfl
  | .ifc, p', h => by unfold rnC at h; cases h; exact .free rfl
  | .emp, p', h => by unfold rnC at h; cases h; exact .free rfl
  | .sl t n xs, p', h => by
    unfold rnC at h
    split at h
    · rename_i xs' hx; cases h; exact .sl id (rnCs_ok hx)
    · cases h
  | .at t xs, p', h => by
    unfold rnC at h
    split at h
    · rename_i xs' hx; cases h; exact .at id (rnCs_ok hx)
    · cases h
  | .loc i off, p', h => by
    unfold rnC at h
    split at h
    · rename_i j hj; cases h; exact .loc (lookM_mem hj)
    · cases h
  | .vw i off n, p', h => by
    unfold rnC at h
    split at h
    · rename_i j hj; cases h; exact .vw (lookM_mem hj)
    · cases h
  | .own i, p', h => by
    unfold rnC at h
    split at h
    · rename_i j hj; cases h; exact .own (lookM_mem hj)
    · cases h
  | .fn f xs, p', h => by
    unfold rnC at h
    split at h
    · rename_i xs' hx; cases h; exact .fn (rnCs_ok hx)
    · cases h
  | .mth f xs, p', h => by
    unfold rnC at h
    split at h
    · rename_i xs' hx; cases h; exact .mth (rnCs_ok hx)
    · cases h
theorem rnCs_ok : ∀ {ps ps' : List PC}, rnCs m ps = some ps' → ConvL H Z (fun i j => (i, j) ∈ m) ps ps'
  | [], ps', h => by unfold rnCs at h; cases h; exact .nil
  | p :: ps, ps', h => by
    unfold rnCs at h
    split at h
    · rename_i q qs hq hqs; cases h; exact .cons (rnC_ok hq) (rnCs_ok hqs)
    · cases h
end
end
mutual
def rnV (m : List (Id × Id)) : PV → Option PV
  | .one p =>
    match rnC m p with
    | some p' => some (.one p')
    | none => none
  | .agg ps =>
    match rnCs m ps with
    | some ps' => some (.agg ps')
    | none => none
  | .tup vs =>
    match rnVs m vs with
    | some vs' => some (.tup vs')
    | none => none
  | .may _ _ => none
def rnVs (m : List (Id × Id)) : List PV → Option (List PV)
  | [] => some []
  | p :: ps =>
    match rnV m p, rnVs m ps with
    | some p', some ps' => some (p' :: ps')
    | _, _ => none
end
section
variable {H : Id → Option Blk} {Z : Id → Prop} {m : List (Id × Id)}
mutual
theorem rnV_ok : ∀ {p p' : PV}, rnV m p = some p' → ConvV H Z (fun i j => (i, j) ∈ m) p p'
  | .one p, p', h => by
    unfold rnV at h
    split at h
    · rename_i q hq; cases h; exact .one (rnC_ok hq)
    · cases h
  | .agg ps, p', h => by
    unfold rnV at h
    split at h
    · rename_i q hq; cases h; exact .agg (rnCs_ok hq)
    · cases h
  | .tup vs, p', h => by
    unfold rnV at h
    split at h
    · rename_i q hq; cases h; exact .tup (rnVs_ok hq)
    · cases h
  | .may _ _, p', h => by unfold rnV at h; cases h
theorem rnVs_ok : ∀ {ps ps' : List PV}, rnVs m ps = some ps' → ConvVs H Z (fun i j => (i, j) ∈ m) ps ps'
  | [], ps', h => by unfold rnVs at h; cases h; exact .nil
  | p :: ps, ps', h => by
    unfold rnVs at h
    split at h
    · rename_i q qs hq hqs; cases h; exact .cons (rnV_ok hq) (rnVs_ok hqs)
    · cases h
end
end
def rnE (m : List (Id × Id)) : List (Value × PC) → Option (List (Value × PC))
  | [] => some []
  | e :: es =>
    match rnC m e.2, rnE m es with
    | some p, some es' => some ((e.1, p) :: es')
    | _, _ => none
theorem rnE_ok {H : Id → Option Blk} {Z : Id → Prop} {m : List (Id × Id)} : ∀ {es es' : List (Value × PC)}, rnE m es = some es' → es.map (·.1) = es'.map (·.1) ∧ ConvL H Z (fun i j => (i, j) ∈ m) (es.map (·.2)) (es'.map (·.2))
  | [], es', h => by cases h; exact ⟨rfl, .nil⟩
  | e :: es, es', h => by
    unfold rnE at h
    split at h
    · rename_i p es1 hp he
      cases h
      obtain ⟨h1, h2⟩ := rnE_ok (H := H) (Z := Z) he
      exact ⟨by rw [List.map_cons, List.map_cons, h1], .cons (rnC_ok hp) h2⟩
    · cases h
def rnB (m : List (Id × Id)) : Blk → Option Blk
  | .box ty cs =>
    match rnCs m cs with
    | some cs' => some (.box ty cs')
    | none => none
  | .arr ty z n cs =>
    match rnCs m cs with
    | some cs' => some (.arr ty z n cs')
    | none => none
  | .mp ty es =>
    match rnE m es with
    | some es' => some (.mp ty es')
    | none => none
theorem rnB_ok {H : Id → Option Blk} {Z : Id → Prop} {m : List (Id × Id)} {b b' : Blk} (h : rnB m b = some b') : ConvB H Z (fun i j => (i, j) ∈ m) b b' := by
  cases b with
  | box ty cs =>
    unfold rnB at h
    simp only at h
    split at h
    · rename_i q hq; cases h; exact .box (rnCs_ok hq)
    · cases h
  | arr ty z n cs =>
    unfold rnB at h
    simp only at h
    split at h
    · rename_i q hq; cases h; exact .arr (rnCs_ok hq)
    · cases h
  | mp ty es =>
    unfold rnB at h
    simp only at h
    split at h
    · rename_i q hq; cases h; exact .mp (rnE_ok (H := H) (Z := Z) hq).1 (rnE_ok hq).2
    · cases h

def nodupB : List Id → Bool
  | [] => true
  | i :: l => !l.contains i && nodupB l
theorem nodupB_ok : ∀ {l : List Id}, nodupB l = true → l.Nodup
  | [], _ => List.nodup_nil
  | i :: l, h => by
    unfold nodupB at h
    rw [Bool.and_eq_true] at h
    refine List.nodup_cons.2 ⟨?_, nodupB_ok h.2⟩
    have := h.1
    simpa using this

def buildF : List (Nat × PV) → Option (Tr PV)
  | [] => some .leaf
  | (k, p) :: l =>
    match buildF l with
    | some t => t.set 64 k (some p)
    | none => none
theorem buildF_get : ∀ {l : List (Nat × PV)} {t : Tr PV}, buildF l = some t → t.get = fun n => lookF n l
  | [], t, h => by cases h; rfl
  | (k, p) :: l, t, h => by
    unfold buildF at h
    split at h
    · rename_i t' ht
      funext n
      rw [Tr.get_set h n, buildF_get ht]
      rfl
    · cases h
def buildH : List (Id × Blk) → Option (Tr (Tr Blk))
  | [] => some .leaf
  | (i, b) :: l =>
    match buildH l with
    | some t => setH t i (some b)
    | none => none
theorem buildH_get : ∀ {l : List (Id × Blk)} {t : Tr (Tr Blk)}, buildH l = some t → getH t = fun i => lookH i l
  | [], t, h => by cases h; rfl
  | (i, b) :: l, t, h => by
    unfold buildH at h
    split at h
    · rename_i t' ht
      rw [getH_setH h, buildH_get ht]
      rfl
    · cases h

def PV.ids : PV → List Id
  | .one p => p.ids
  | .agg ps => PC.idss ps
  | _ => []
/-- The slots that hold something whose blocks are there. -/
def slots (s : S) : List Nat → List (Nat × PV)
  | [] => []
  | t :: l =>
    match s.fr.get t with
    | some (.may _ _) => slots s l
    | some p => if p.ids.all (fun i => (getH s.H i).isSome) = true then (t, p) :: slots s l else slots s l
    | none => slots s l
theorem slots_mem {s : S} {e : Nat × PV} : ∀ {l : List Nat}, e ∈ slots s l → s.fr.get e.1 = some e.2
  | [], h => by simp [slots] at h
  | t :: l, h => by
    unfold slots at h
    split at h
    · exact slots_mem h
    · rename_i p _ hp
      split at h
      · rcases List.mem_cons.1 h with rfl | h
        · exact hp
        · exact slots_mem h
      · exact slots_mem h
    · exact slots_mem h
def number (k0 : Nat) : Nat → List Id → List (Id × Id)
  | _, [] => []
  | k, i :: l => if i.1 = 0 then (i, i) :: number k0 k l else (i, (1 + k0, k)) :: number k0 (k + 1) l
def rnF (m : List (Id × Id)) : List (Nat × PV) → Option (List (Nat × PV))
  | [] => some []
  | (t, p) :: l =>
    match rnV m p, rnF m l with
    | some p', some l' => some ((t, p') :: l')
    | _, _ => none
theorem rnF_mem {m : List (Id × Id)} {e : Nat × PV} : ∀ {l l' : List (Nat × PV)}, rnF m l = some l' → e ∈ l' → ∃ p, (e.1, p) ∈ l ∧ rnV m p = some e.2
  | [], l', h, he => by cases h; cases he
  | (t, p) :: l, l', h, he => by
    unfold rnF at h
    split at h
    · rename_i p' l1 hp hl
      cases h
      rcases List.mem_cons.1 he with rfl | he
      · exact ⟨p, by simp, hp⟩
      · obtain ⟨q, hq, hr⟩ := rnF_mem hl he
        exact ⟨q, List.mem_cons_of_mem _ hq, hr⟩
    · cases h
def rnH (s : S) (m : List (Id × Id)) : List (Id × Id) → Option (List (Id × Blk))
  | [] => some []
  | (i, j) :: l =>
    match (getH s.H i).bind (rnB m), rnH s m l with
    | some b, some l' => some ((j, b) :: l')
    | _, _ => none
theorem rnH_mem {s : S} {m : List (Id × Id)} {e : Id × Blk} : ∀ {l : List (Id × Id)} {l' : List (Id × Blk)}, rnH s m l = some l' → e ∈ l' → ∃ i b, (i, e.1) ∈ l ∧ getH s.H i = some b ∧ rnB m b = some e.2
  | [], l', h, he => by cases h; cases he
  | (i, j) :: l, l', h, he => by
    unfold rnH at h
    split at h
    · rename_i b l1 hb hl
      cases h
      rcases List.mem_cons.1 he with rfl | he
      · obtain ⟨b0, hb0, hb1⟩ := Option.bind_eq_some_iff.1 hb
        exact ⟨i, b0, by simp, hb0, hb1⟩
      · obtain ⟨i', b', h1, h2, h3⟩ := rnH_mem hl he
        exact ⟨i', b', List.mem_cons_of_mem _ h1, h2, h3⟩
    · cases h
/-- All that lives, under names from nt on. -/
def gcS (nt : Nat) (s : S) : Option S :=
  let fr := slots s (List.range nt)
  let M := reach (getH s.H) 1000000 (fr.flatMap fun e => e.2.ids) []
  let m := number nt 0 M
  if (nodupB (m.map (·.1)) && nodupB (m.map (·.2)) && m.all fun e => (decide (e.2.1 = 0) && decide (e.1 = e.2)) || decide (e.2.1 = 1 + nt)) = true then
    match rnF m fr, rnH s m m with
    | some fr', some H' =>
      match buildF fr', buildH H', (Tr.leaf : Tr Unit).set 64 nt (some ()) with
      | some f, some h, some us => some ⟨f, h, us, 1, false⟩
      | _, _, _ => none
    | _, _ => none
  else none
theorem gcS_ok {C : Ctx} {nt : Nat} {s s' : S} (h : gcS nt s = some s') : Wk C s.abs s'.abs := by
  unfold gcS at h
  simp only at h
  split at h
  · rename_i hc
    split at h
    · rename_i fr' H' hf hH
      split at h
      · rename_i f hh us e1 e2 e3
        cases h
        rw [Bool.and_eq_true, Bool.and_eq_true] at hc
        have ea : (⟨f, hh, us, 1, false⟩ : S).abs = St.of fr' H' [nt] := by
          show (⟨f.get, getH hh, fun d => (us.get d).isSome, 1, fun _ => none⟩ : St) = _
          rw [buildF_get e1, buildH_get e2]
          have : (fun d => (us.get d).isSome) = fun d => inU d [nt] := by
            funext d
            rw [Tr.get_set e3 d]
            simp only [inU]
            split <;> rfl
          rw [this]; rfl
        rw [ea]
        refine wk_conv [] _ (nodupB_ok hc.1.1) (nodupB_ok hc.1.2) (fun e he => ?_) (fun e he => ?_) (fun e he => ?_)
        · have := List.all_eq_true.1 hc.2 e he
          simp only [Bool.or_eq_true, Bool.and_eq_true, decide_eq_true_eq] at this
          rcases this with h | h
          · exact .inl h
          · exact .inr ⟨nt, by simp, h⟩
        · obtain ⟨p, hp, hr⟩ := rnF_mem hf he
          exact ⟨p, slots_mem hp, rnV_ok hr⟩
        · obtain ⟨i, b, h1, h2, h3⟩ := rnH_mem hH he
          exact ⟨i, b, h1, by simp, h2, rnB_ok h3⟩
      · cases h
    · cases h
  · cases h
/-- Names anew, if there are new names. -/
def tidyS (nt : Nat) (s : S) : Option S := if s.al = true then gcS nt s else some s
theorem tidyS_ok {C : Ctx} {nt : Nat} {s s' : S} (h : tidyS nt s = some s') : Wk C s.abs s'.abs := by
  unfold tidyS at h
  split at h
  · exact gcS_ok h
  · cases h; exact fun _ _ _ _ r => r
end Go.Vm
end

section
namespace Go.Vm
open Go Go.RowKit
set_option linter.unusedVariables false

/-! ### Code, computed -/
def evC (P : Program) (nt : Nat) (cx : Cx) (io : Io) : Nat → Code → S → Option (Exit × S)
  | 0, _, _ => none
  | n + 1, c, s =>
    match c with
    | .skip => some (.normal, s)
    | .label _ => some (.normal, s)
    | .exit id => some (.exit id, s)
    | .goto l => some (.goto l, s)
    | .ret => some (.ret, s)
    | .region _ ops draw =>
      match regS P nt cx io ops.toList draw s with
      | some s' => some (.normal, s')
      | none => none
    | .seq a b =>
      match evC P nt cx io n a s with
      | some (.normal, s') => evC P nt cx io n b s'
      | r => r
    | .cond o x y =>
      match (ev s.fr.get o).bind asB with
      | some true => evC P nt cx io n x s
      | some false => evC P nt cx io n y s
      | none => none
    | .block id b =>
      match evC P nt cx io n b s with
      | some (.exit id', s') => if id' = id then some (.normal, s') else some (.exit id', s')
      | r => r
    | .loop b =>
      match evC P nt cx io n b s with
      | some (.normal, s') =>
        match tidyS nt s' with
        | some s'' => evC P nt cx io n (.loop b) s''
        | none => none
      | r => r
    | _ => none

theorem wk_refl {C : Ctx} {σ : St} : Wk C σ σ := fun _ _ _ _ r => r

theorem evC_ok {C : Ctx} {cx : Cx} {io : Io} (hk : Knows C.P C.gw C.gb cx io) (hm : C.P.follows .mixedOrders = true) : ∀ (n : Nat) (c : Code) (s s' : S) (e : Exit) (Q : Post),
    evC C.P C.nt cx io n c s = some (e, s') → Q e s'.abs → vwp C c Q s.abs := by
  intro n
  induction n using Nat.strongRecOn with
  | ind n ih =>
  intro c s s' e Q h hQ
  match n, h, ih with
  | 0, h, _ => cases h
  | n + 1, h, ih =>
    have ihn := ih n (Nat.lt_succ_self n)
    cases c with
    | skip => unfold evC at h; cases h; exact vwp_skip hQ
    | label l => unfold evC at h; cases h; exact vwp_label hQ
    | exit id => unfold evC at h; cases h; exact vwp_exit hQ
    | goto l => unfold evC at h; cases h; exact vwp_goto hQ
    | ret => unfold evC at h; cases h; exact vwp_ret hQ
    | region id ops draw =>
      unfold evC at h
      simp only at h
      split at h
      · rename_i s1 h1
        cases h
        exact regS_ok hk hm h1 hQ
      · cases h
    | seq a b =>
      unfold evC at h
      simp only at h
      refine vwp_seq fun K hK => ?_
      split at h
      · rename_i s1 h1
        exact ihn a s s1 .normal (thenQ K Q) h1 (hK _ (ihn b s1 s' e Q h hQ))
      · rename_i r hr
        refine ihn a s s' e (thenQ K Q) h ?_
        cases e
        case normal => exact absurd h (hr _)
        all_goals exact hQ
    | cond o x y =>
      unfold evC at h
      simp only at h
      split at h
      · rename_i hb
        exact vwp_cond hb (fun _ => ihn x s s' e Q h hQ) (fun hf => by cases hf)
      · rename_i hb
        exact vwp_cond hb (fun hf => by cases hf) (fun _ => ihn y s s' e Q h hQ)
      · cases h
    | block id b =>
      unfold evC at h
      simp only at h
      refine vwp_block ?_
      split at h
      · rename_i id' s1 h1
        split at h
        · rename_i hid
          cases h
          exact ihn b s _ _ (blockQ id Q) h1 (by show (if id' = id then _ else _); rw [if_pos hid]; exact hQ)
        · rename_i hid
          cases h
          exact ihn b s _ _ (blockQ id Q) h1 (by show (if id' = id then _ else _); rw [if_neg hid]; exact hQ)
      · rename_i r hr
        refine ihn b s s' e (blockQ id Q) h ?_
        cases e
        case exit id' => exact absurd h (hr _ _)
        all_goals exact hQ
    | loop b =>
      refine vwp_loop (fun m τ => m ≤ n + 1 ∧ ∃ t t' e', τ = t.abs ∧ evC C.P C.nt cx io m (.loop b) t = some (e', t') ∧ Q e' t'.abs) (n + 1) ⟨s.abs, wk_refl, Nat.le_refl _, s, s', e, rfl, h, hQ⟩ ?_
      rintro m τ ⟨hmn, t, t', e', rfl, ht, hq⟩ K hK
      match m, hmn, ht, hK with
      | 0, _, ht, _ => cases ht
      | m + 1, hmn, ht, hK =>
        unfold evC at ht
        simp only at ht
        have ihm := ih m (by omega)
        split at ht
        · rename_i s1 h1
          split at ht
          · rename_i s2 h2
            exact ihm b t s1 .normal (thenQ K Q) h1 (hK s1.abs m s2.abs (Nat.lt_succ_self m) (tidyS_ok h2) ⟨by omega, s2, t', e', rfl, ht, hq⟩)
          · cases ht
        · rename_i r hr
          refine ihm b t t' e' (thenQ K Q) ht ?_
          cases e'
          case normal => exact absurd ht (hr _)
          all_goals exact hq
    | _ => unfold evC at h; cases h
end Go.Vm
end
