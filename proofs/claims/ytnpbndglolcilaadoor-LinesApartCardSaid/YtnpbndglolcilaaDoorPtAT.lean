/-
  Walks of the program's functions by the framework, and what they compute (PtAT). Conditions: each theorem's own premises. By an AI agent.
-/
import Derived.Test.YtnpbndglolcilaaDoorPtAP
import Derived.Test.YtnpbndglolcilaaDoorPtAR
import Derived.Test.YtnpbndglolcilaaDoorCards
import Derived.Test.YtnpbndglolcilaaDoorTie
import Derived.WalkKit
import Derived.ProofKit
import Derived.OpenShut
import Derived.Deep.DeepHandedRow
import Derived.Deep.SlicePairs
import Derived.Deep.Strs
import Derived.Lib.LaidTab
import Derived.Lib.SmallJoins
import Derived.Carry
import Derived.Stop.LaidErr
import Derived.MakeChecks
import Derived.ChangeSame
namespace Go.Proofs.YtnpbndglolcilaaDoor.rowsW
open Go.ChangeShapes Go.WideShapes Go.ChangeAt Go.RowKit Go.Vm Go.Shelf
open Go.ChangeMaps (open_string shut_string)
open Go.Joins
open Go.MakeChecks (laidMetH_plain)
open Go.Deep (oneCellFields open_slice1 open_slice_pairs choose_lt)
open Go.WideElems (Trod_stays)
set_option maxRecDepth 100000

section
variable {W : World} {φ : Vm.Id → Option Value} {F : Bool → Nat → Prop}
theorem cell_lt {a : Addr} {v : Value} (h : W.cell? a = some v) : a.block < W.heap.size := by
  apply Classical.byContradiction
  intro hge
  unfold World.cell? at h
  rw [Array.getElem?_eq_none (by omega)] at h
  cases h
theorem row_rep {a : Addr} {len cap z : Nat} {ps : List PC} (hz : 0 < z) (hl : len ≤ cap) (hps : ps.length = len * z) (hr : ∀ j p, ps[j]? = some p → ∃ v, W.cell? (a.add j) = some v ∧ rep φ W F p v) (hF : ∀ g, g < W.heap.size → F false g) : rep φ W F (.sl false len ps) (.slice (some a) len cap) := by
  simp only [rep]
  refine ⟨some a, cap, rfl, hl, ?_⟩
  by_cases h0 : len = 0
  · subst h0
    exact .inl ⟨rfl, List.length_eq_zero_iff.1 (by simpa using hps)⟩
  · have hpos : 0 < ps.length := by rw [hps]; exact Nat.mul_pos (by omega) hz
    obtain ⟨v, hv, _⟩ := hr 0 ps[0] (List.getElem?_eq_getElem hpos)
    have := cell_lt hv
    rw [add_block] at this
    exact .inr ⟨a, rfl, hF _ this, repAt_of_get _ _ hr⟩
theorem nil_rep : rep φ W F (.sl false 0 []) (.slice none 0 0) := by
  simp only [rep]
  exact ⟨none, 0, rfl, Nat.le_refl _, .inl (by simp)⟩
end

theorem cells23 : Tryd.prog.cellsOf 23 = 2 := by kernel_rfl
theorem cells59 : Tryd.prog.cellsOf 59 = 3 := by kernel_rfl
theorem cells9' : Tryd.prog.cellsOf 9 = 1 := by kernel_rfl
theorem cells4 : Tryd.prog.cellsOf 4 = 1 := by kernel_rfl
theorem cells37 : Tryd.prog.cellsOf 37 = 1 := by kernel_rfl
theorem cells97 : Tryd.prog.cellsOf 97 = 2 := by kernel_rfl
theorem cells3 : Tryd.prog.cellsOf 3 = 1 := by kernel_rfl
theorem cells5 : Tryd.prog.cellsOf 5 = 1 := by kernel_rfl
theorem cells38 : Tryd.prog.cellsOf 38 = 1 := by kernel_rfl
theorem cells41 : Tryd.prog.cellsOf 41 = 1 := by kernel_rfl
theorem cells40 : Tryd.prog.cellsOf 40 = 2 := by kernel_rfl
theorem cells43 : Tryd.prog.cellsOf 43 = 2 := by kernel_rfl
theorem cells45 : Tryd.prog.cellsOf 45 = 4 := by kernel_rfl
theorem cells47 : Tryd.prog.cellsOf 47 = 7 := by kernel_rfl

section
variable {H : Type} {enc : TypeId × Value → H} {W : World} {sp : Nat → Bool} {held : Bool} {n : Nat} {v : Value} {x : DataW H × List MemPlace}
def Bools (W : World) (v : Value) (l : List Bool) : Prop := ∀ (φ : Vm.Id → Option Value) (F : Bool → Nat → Prop), (∀ g, g < W.heap.size → F false g) → rep φ W F (.sl false l.length (l.map fun b => .c (.bool b))) v
theorem open_bools (h : DataW.trod enc Tryd.prog W 0 sp held n 37 [v] = some x) : ∃ l : List Bool, Bools W v l := by
  rcases open_slice1 ty_u37 cells4 h with ⟨hc, _⟩ | ⟨a, len, cap, m, n', V, D, Pl, hc, _, hl, _, hmm, _, hx⟩
  · cases hc
    exact ⟨[], fun φ F hF => nil_rep⟩
  · cases hc
    have hlm : len ≤ m := by rw [hmm]; split <;> omega
    obtain ⟨B, hB⟩ := choose_lt (n := len) (p := fun i b => V i = .bool b) (fun i hi => by
      obtain ⟨b, hb, _⟩ := DataW.trod_bool ty_u4 (hx i (by omega)).2
      exact ⟨b, by simpa using hb⟩)
    refine ⟨(List.range len).map B, fun φ F hF => ?_⟩
    have hlen : ((List.range len).map B).length = len := by simp
    rw [hlen]
    refine row_rep (z := 1) (by decide) hl (by simp) (fun j p hp => ?_) hF
    rw [List.map_map, List.getElem?_map] at hp
    obtain ⟨i, hi, rfl⟩ := Option.map_eq_some_iff.1 hp
    obtain ⟨hi1, hi2⟩ := List.getElem?_eq_some_iff.1 hi
    rw [List.getElem_range] at hi2
    subst hi2
    have hj : j < len := by simpa using hi1
    refine ⟨V j, (hx j (by omega)).1, ?_⟩
    simp only [Function.comp, rep]
    exact ⟨hB j hj, rfl⟩
theorem open_rows (h : DataW.trod enc Tryd.prog W 0 sp held n 38 [v] = some x) : ∃ l : List (List Bool), ∀ (φ : Vm.Id → Option Value) (F : Bool → Nat → Prop), (∀ g, g < W.heap.size → F false g) → rep φ W F (.sl false l.length (l.map fun l => .sl false l.length (l.map fun b => .c (.bool b)))) v := by
  rcases open_slice1 ty_u38 cells37 h with ⟨hc, _⟩ | ⟨a, len, cap, m, n', V, D, Pl, hc, _, hl, _, hmm, _, hx⟩
  · cases hc
    exact ⟨[], fun φ F hF => nil_rep⟩
  · cases hc
    have hlm : len ≤ m := by rw [hmm]; split <;> omega
    obtain ⟨B, hB⟩ := choose_lt (n := len) (p := fun i l => Bools W (V i) l) (fun i hi => open_bools (hx i (by omega)).2)
    refine ⟨(List.range len).map B, fun φ F hF => ?_⟩
    have hlen : ((List.range len).map B).length = len := by simp
    rw [hlen]
    refine row_rep (z := 1) (by decide) hl (by simp) (fun j p hp => ?_) hF
    rw [List.map_map, List.getElem?_map] at hp
    obtain ⟨i, hi, rfl⟩ := Option.map_eq_some_iff.1 hp
    obtain ⟨hi1, hi2⟩ := List.getElem?_eq_some_iff.1 hi
    rw [List.getElem_range] at hi2
    subst hi2
    have hj : j < len := by simpa using hi1
    exact ⟨V j, (hx j (by omega)).1, hB j hj φ F hF⟩
theorem two_get {α : Type} (f g : α → PC) : ∀ (l : List α) (j : Nat) (p : PC), (l.flatMap fun a => [f a, g a])[j]? = some p → ∃ a, l[j / 2]? = some a ∧ p = if j % 2 = 0 then f a else g a
  | [], j, p, h => by simp at h
  | a :: l, 0, p, h => by simp at h; exact ⟨a, rfl, by simp [h]⟩
  | a :: l, 1, p, h => by simp at h; exact ⟨a, rfl, by simp [h]⟩
  | a :: l, j + 2, p, h => by
    simp only [List.flatMap_cons, List.cons_append, List.nil_append, List.getElem?_cons_succ] at h
    obtain ⟨b, hb, hp⟩ := two_get f g l j p h
    refine ⟨b, ?_, ?_⟩
    · rw [show (j + 2) / 2 = j / 2 + 1 by omega]; simpa using hb
    · rw [show (j + 2) % 2 = j % 2 by omega]; exact hp
theorem open_pairs (h : DataW.trod enc Tryd.prog W 0 sp held n 41 [v] = some x) : ∃ l : List (Int × Int), ∀ (φ : Vm.Id → Option Value) (F : Bool → Nat → Prop), (∀ g, g < W.heap.size → F false g) → rep φ W F (.sl false l.length (l.flatMap fun g => [.c (.int .i64 g.1), .c (.int .i64 g.2)])) v := by
  rcases open_slice_pairs ty_u41 ty_u97 cells97 rfl rfl cells3 cells3 h with ⟨hc, _⟩ | ⟨a, len, cap, m, n', V0, V1, D0, D1, P0, P1, hc, _, hl, _, hmm, _, hx⟩
  · cases hc
    exact ⟨[], fun φ F hF => nil_rep⟩
  · cases hc
    have hlm : len ≤ m := by rw [hmm]; split <;> omega
    obtain ⟨B, hB⟩ := choose_lt (n := len) (p := fun i (g : Int × Int) => V0 i = .int .i64 g.1 ∧ V1 i = .int .i64 g.2) (fun i hi => by
      obtain ⟨_, _, h0, h1⟩ := hx i (by omega)
      obtain ⟨b0, hb0, _⟩ := DataW.trod_int ty_u3 h0
      obtain ⟨b1, hb1, _⟩ := DataW.trod_int ty_u3 h1
      exact ⟨(b0, b1), by simpa using hb0, by simpa using hb1⟩)
    refine ⟨(List.range len).map B, fun φ F hF => ?_⟩
    have hlen : ((List.range len).map B).length = len := by simp
    rw [hlen]
    have hfl : ∀ l : List (Int × Int), (l.flatMap fun g => [PC.c (.int .i64 g.1), PC.c (.int .i64 g.2)]).length = l.length * 2 := by
      intro l
      induction l with
      | nil => rfl
      | cons a l ih => rw [List.flatMap_cons, List.length_append, ih]; simp; omega
    refine row_rep (z := 2) (by decide) hl (by rw [hfl, hlen]) (fun j p hp => ?_) hF
    obtain ⟨g, hg, rfl⟩ := two_get _ _ _ j p hp
    rw [List.getElem?_map] at hg
    obtain ⟨i, hi, rfl⟩ := Option.map_eq_some_iff.1 hg
    obtain ⟨hi1, hi2⟩ := List.getElem?_eq_some_iff.1 hi
    rw [List.getElem_range] at hi2
    subst hi2
    have hj : j / 2 < len := by simpa using hi1
    obtain ⟨e0, e1, _⟩ := hx (j / 2) (by omega)
    obtain ⟨b0, b1⟩ := hB (j / 2) hj
    by_cases hm2 : j % 2 = 0
    · rw [if_pos hm2]
      refine ⟨V0 (j / 2), ?_, by simp only [rep]; exact ⟨b0, rfl⟩⟩
      rwa [show j / 2 * 2 = j by omega] at e0
    · rw [if_neg hm2]
      refine ⟨V1 (j / 2), ?_, by simp only [rep]; exact ⟨b1, rfl⟩⟩
      rwa [show j / 2 * 2 + 1 = j by omega] at e1
theorem open_passes (h : DataW.trod enc Tryd.prog W 0 sp held n 57 [v] = some x) : ∃ l : List (ByteArray × Int), ∀ (φ : Vm.Id → Option Value) (F : Bool → Nat → Prop), (∀ g, g < W.heap.size → F false g) → rep φ W F (.sl false l.length (l.flatMap fun p => [.c (.string p.1), .c (.int .i64 p.2)])) v := by
  rcases open_slice_pairs ty_u57 ty_u23 cells23 rfl rfl cells9' cells3 h with ⟨hc, _⟩ | ⟨a, len, cap, m, n', V0, V1, D0, D1, P0, P1, hc, _, hl, _, hmm, _, hx⟩
  · cases hc
    exact ⟨[], fun φ F hF => nil_rep⟩
  · cases hc
    have hlm : len ≤ m := by rw [hmm]; split <;> omega
    obtain ⟨B, hB⟩ := choose_lt (n := len) (p := fun i (g : ByteArray × Int) => V0 i = .string g.1 ∧ V1 i = .int .i64 g.2) (fun i hi => by
      obtain ⟨_, _, h0, h1⟩ := hx i (by omega)
      obtain ⟨b0, hb0, _⟩ := DataW.trod_string ty_u9 h0
      obtain ⟨b1, hb1, _⟩ := DataW.trod_int ty_u3 h1
      exact ⟨(b0, b1), by simpa using hb0, by simpa using hb1⟩)
    refine ⟨(List.range len).map B, fun φ F hF => ?_⟩
    have hlen : ((List.range len).map B).length = len := by simp
    rw [hlen]
    have hfl : ∀ l : List (ByteArray × Int), (l.flatMap fun p => [PC.c (.string p.1), PC.c (.int .i64 p.2)]).length = l.length * 2 := by
      intro l
      induction l with
      | nil => rfl
      | cons a l ih => rw [List.flatMap_cons, List.length_append, ih]; simp; omega
    refine row_rep (z := 2) (by decide) hl (by rw [hfl, hlen]) (fun j p hp => ?_) hF
    obtain ⟨g, hg, rfl⟩ := two_get _ _ _ j p hp
    rw [List.getElem?_map] at hg
    obtain ⟨i, hi, rfl⟩ := Option.map_eq_some_iff.1 hg
    obtain ⟨hi1, hi2⟩ := List.getElem?_eq_some_iff.1 hi
    rw [List.getElem_range] at hi2
    subst hi2
    have hj : j / 2 < len := by simpa using hi1
    obtain ⟨e0, e1, _⟩ := hx (j / 2) (by omega)
    obtain ⟨b0, b1⟩ := hB (j / 2) hj
    by_cases hm2 : j % 2 = 0
    · rw [if_pos hm2]
      refine ⟨V0 (j / 2), ?_, by simp only [rep]; exact ⟨b0, rfl⟩⟩
      rwa [show j / 2 * 2 = j by omega] at e0
    · rw [if_neg hm2]
      refine ⟨V1 (j / 2), ?_, by simp only [rep]; exact ⟨b1, rfl⟩⟩
      rwa [show j / 2 * 2 + 1 = j by omega] at e1
theorem open_list {d : DataW H} {p : List MemPlace} {base : Nat} (hv : Value.okWide Tryd.prog W .any base 57 v) (h : DataW.Trod enc Tryd.prog W 0 sp held 57 v d p) :
    ∃ l : List (ByteArray × Int), ∀ (φ : Vm.Id → Option Value) (F : Bool → Nat → Prop), (∀ g, g < W.heap.size → F false g) → repV φ W F (.one (.sl false l.length (l.flatMap fun p => [.c (.string p.1), .c (.int .i64 p.2)]))) v := by
  obtain ⟨fuel, hf⟩ := h
  obtain ⟨a, len, cap, rfl⟩ := okWide_slice ty_u57 hv
  exact open_passes (v := .slice a len cap) hf
theorem open_eng {d : DataW H} {p : List MemPlace} {base : Nat} (hv : Value.okWide Tryd.prog W .any base 59 v) (h : DataW.Trod enc Tryd.prog W 0 sp held 59 v d p) :
    ∃ x : Eng, ∀ (φ : Vm.Id → Option Value) (F : Bool → Nat → Prop), (∀ g, g < W.heap.size → F false g) → repV φ W F (.agg x.pcs) v := by
  obtain ⟨cs, rfl, hsz⟩ := okWide_struct ty_u59 hv
  rw [cells59] at hsz
  obtain ⟨fuel, hf⟩ := h
  obtain ⟨l, rfl⟩ : ∃ l : List Value, cs = l.toArray := ⟨cs.toList, by simp⟩
  have hl : l.length = 3 := by simpa using hsz
  obtain ⟨y0, y1, y2, m, _, _, h0, h1, h2⟩ := Go.Deep.trod_struct3 ty_u59 hf
  match l, hl with
  | [c0, c1, c2], _ =>
    simp only [Value.cells, cells4, cells3] at h0 h1 h2
    obtain ⟨b, hb, _⟩ := DataW.trod_bool ty_u4 h0
    obtain ⟨k, hk, _⟩ := DataW.trod_int ty_u3 h1
    obtain ⟨j, hj, _⟩ := DataW.trod_int ty_u3 h2
    have e0 : c0 = .bool b := by simpa using hb
    have e1 : c1 = .int .i64 k := by simpa using hk
    have e2 : c2 = .int .i64 j := by simpa using hj
    refine ⟨⟨b, k, j⟩, fun φ F hF => ?_⟩
    simp only [repV, Eng.pcs]
    refine ⟨_, rfl, ?_⟩
    simp only [reps]
    refine ⟨_, _, rfl, ?_, _, _, rfl, ?_, _, _, rfl, ?_, rfl⟩
    all_goals simp only [rep]
    · exact ⟨e0, rfl⟩
    · exact ⟨e1, rfl⟩
    · exact ⟨e2, rfl⟩
theorem open_ver {d : DataW H} {p : List MemPlace} {base : Nat} (hv : Value.okWide Tryd.prog W .any base 47 v) (h : DataW.Trod enc Tryd.prog W 0 sp held 47 v d p) :
    ∃ u : Ver, ∀ (φ : Vm.Id → Option Value) (F : Bool → Nat → Prop), (∀ g, g < W.heap.size → F false g) → repV φ W F (.agg (u.pcs false)) v := by
  obtain ⟨cs, rfl, hsz⟩ := okWide_struct ty_u47 hv
  rw [cells47] at hsz
  obtain ⟨fuel, hf⟩ := h
  obtain ⟨l, rfl⟩ : ∃ l : List Value, cs = l.toArray := ⟨cs.toList, by simp⟩
  have hl : l.length = 7 := by simpa using hsz
  obtain ⟨y0, y1, y2, m, _, _, h0, h1, h2⟩ := Go.Deep.trod_struct3 ty_u47 hf
  match l, hl with
  | [c0, c1, c2, c3, c4, c5, c6], _ =>
    simp only [Value.cells, cells5, cells40, cells45] at h0 h1 h2
    obtain ⟨z0, z1, m1, _, _, t0, t1⟩ := trod_struct2 ty_u40 h1
    obtain ⟨q0, q1, q2, m2, _, _, s0, s1, s2⟩ := Go.Deep.trod_struct3 ty_u45 h2
    simp only [cells3, cells43] at s0 s1 s2
    obtain ⟨r0, r1, m3, _, _, u0, u1⟩ := trod_struct2 ty_u43 s2
    simp only [cells37, cells38] at t0 t1
    simp only [cells41, cells3] at u0 u1
    obtain ⟨k, hk, _⟩ := DataW.trod_int ty_u5 h0
    obtain ⟨fi, hfi⟩ := open_bools (v := c1) t0
    obtain ⟨ins, hins⟩ := open_rows (v := c2) t1
    obtain ⟨sk, hsk, _⟩ := DataW.trod_int ty_u3 s0
    obtain ⟨ph, hph, _⟩ := DataW.trod_int ty_u3 s1
    obtain ⟨an, han⟩ := open_pairs (v := c5) u0
    obtain ⟨li, hli, _⟩ := DataW.trod_int ty_u3 u1
    have e0 : c0 = .int .u8 k := by simpa using hk
    have e3 : c3 = .int .i64 sk := by simpa using hsk
    have e4 : c4 = .int .i64 ph := by simpa using hph
    have e6 : c6 = .int .i64 li := by simpa using hli
    refine ⟨⟨k, fi, ins, sk, ph, an, li⟩, fun φ F hF => ?_⟩
    simp only [repV, Ver.pcs, Ver.prf]
    refine ⟨_, rfl, ?_⟩
    simp only [reps]
    refine ⟨_, _, rfl, ?_, _, _, rfl, hfi φ F hF, _, _, rfl, hins φ F hF, _, _, rfl, ?_, _, _, rfl, ?_, _, _, rfl, han φ F hF, _, _, rfl, ?_, rfl⟩
    all_goals simp only [rep]
    · exact ⟨e0, rfl⟩
    · exact ⟨e3, rfl⟩
    · exact ⟨e4, rfl⟩
    · exact ⟨e6, rfl⟩
end
section
variable {H : Type} {enc : TypeId × Value → H} {P : Program}
theorem post_of_below {f : Func} {s : ChangeSpec} {apart fresh handsOn again : Bool} {W W' : World} {args : Array Value} {v : Value} {ds gs : List (DataW H)} {before pa pv : List MemPlace}
    (hW : DataW.Whole enc P f.params.toList s.vars apart W args.toList ds gs before)
    (hres : ∀ (b : Nat) (sp : Nat → Bool) (hd : Bool), DataW.TrodAll enc P W' b sp hd f.resultTypes.toList (v.resultList f.resultTypes.size) (s.fn H (ds ++ gs)).results [])
    (hargs : ∀ sp : Nat → Bool, (∀ p ∈ before, sp p.block = true) → DataW.TrodAll enc P W' 0 sp true f.params.toList args.toList (s.fn H (ds ++ gs)).args pa)
    (hvars : ∀ sp : Nat → Bool, (∀ p ∈ before, sp p.block = true) → DataW.TrodVars enc P W' sp s.vars (s.fn H (ds ++ gs)).vars pv)
    (hps : before = pa ++ pv) (hb : Below W.heap.size W W')
    (hok : ∀ (j : Nat) (t : TypeId) (r : Value), f.resultTypes[j]? = some t → (v.resultList f.resultTypes.size)[j]? = some r → Value.okWide P W' .any 0 t r) :
    s.post enc P f apart fresh handsOn again W args v W' := by
  have hlt : ∀ p ∈ before, p.block < W.heap.size := fun p hp => hW.lt p hp
  have hold : ∀ p ∈ before, (fun b => decide (b < W.heap.size)) p.block = true := fun p hp => by simpa using hlt p hp
  refine ⟨ds, gs, before, [], pa, pv, hW, hres _ _ _, hargs _ hold, hvars _ hold, World.keptBut_mono (fun p hp => ⟨hp, ?_⟩) (hb.frame (· ∈ before)), fun _ => ?_⟩
  · rw [hps, List.mem_append] at hp
    exact Or.inr hp
  · obtain ⟨_, _, _, _, _, hz, hn⟩ := hW
    refine ⟨hok, _, _, ([] ++ pa) ++ pv, ⟨[] ++ pa, pv, trodAll_append (hargs _ (fun _ _ => rfl)) (hres _ _ _), hvars _ (fun _ _ => rfl), rfl, ?_, ?_⟩, ?_⟩
    · intro b off hp
      have hin : MemPlace.cell b off ∈ before := by rw [hps]; simpa using hp
      rw [hb.frozen (hlt _ hin)]
      exact hz b off hin
    · intro ha
      have := hn ha
      rw [hps] at this
      simpa using this
    · intro p hp _
      rw [hps]
      simpa using hp
end

theorem own : ownKnob Tryd.prog.godebug = none := by kernel_rfl
theorem laidOut : laidOutB Tryd.prog = true := by kernel_rfl
theorem gPow : Tryd.prog.globalNamed "internal/strconv.uint64pow10" = some 3 := by kernel_rfl
theorem gPowType : (Tryd.prog.globals[3]?).map (·.type) = some 165 := by kernel_rfl
theorem gES : Tryd.prog.globalNamed "strconv.ErrSyntax" = some 1 := by kernel_rfl
theorem gESType : (Tryd.prog.globals[1]?).map (·.type) = some 83 := by kernel_rfl
theorem gER : Tryd.prog.globalNamed "strconv.ErrRange" = some 2 := by kernel_rfl
theorem gERType : (Tryd.prog.globals[2]?).map (·.type) = some 83 := by kernel_rfl
theorem cells165 : Tryd.prog.cellsOf 165 = 20 := by kernel_rfl
theorem cells149 : Tryd.prog.cellsOf 149 = 1 := by kernel_rfl
theorem cells175 : Tryd.prog.cellsOf 175 = 1 := by kernel_rfl
theorem cells9 : Tryd.prog.cellsOf 9 = 1 := by kernel_rfl
theorem star : "*" ++ "errors.errorString" = "*errors.errorString" := by decide
theorem row173 (u : TypeId) (h : Tryd.prog.typeName? 3 u = some "*errors.errorString") : u = 173 :=
  typeName_ptr_named (nm := "errors.errorString") (by rw [star]; kernel_rfl) (by kernel_rfl) (by decide) u (by rw [star]; exact h)

theorem glob {W : World} (hL : laidMetH Tryd.prog Rows.linesVerdictsRow.laid W) (hS : W.ShapedOpen Tryd.prog) : Glob W := by
  have hL' : laidMet Tryd.prog Rows.linesVerdictsRow.laid W := by
    rw [← laidMetH_plain Tryd.prog Rows.linesVerdictsRow.laid W (by rfl)]; exact hL
  have h2 := hL'.tail.tail
  have h4 := h2.tail.tail
  have h5 := h4.tail
  refine ⟨Lib.tabIs_of_head gPow gPowType Tryd.underlying165 Tryd.underlying149 cells149 cells165 h2, Tryd.laysM145.s1_3 W hS, ?_, ?_⟩
  · obtain ⟨a, s, hv, _⟩ := laid_sentinel h5 gES gESType Tryd.underlying83 row173 Tryd.underlying173 Tryd.underlying175 rfl rfl Tryd.underlying9 cells175 cells9
    exact ⟨_, _, hv⟩
  · obtain ⟨a, s, hv, _⟩ := laid_sentinel h4 gER gERType Tryd.underlying83 row173 Tryd.underlying173 Tryd.underlying175 rfl rfl Tryd.underlying9 cells175 cells9
    exact ⟨_, _, hv⟩

/-- A WORLD FOR THE WITNESS: the settled one, with the tables and the two sentinels as their initialisers lay them. -/
noncomputable def low : Nat := (World.holding Tryd.prog default ⟨#[], #[], []⟩).heap.size
abbrev synS : ByteArray := { data := #[105, 110, 118, 97, 108, 105, 100, 32, 115, 121, 110, 116, 97, 120] }
abbrev rngS : ByteArray := { data := #[118, 97, 108, 117, 101, 32, 111, 117, 116, 32, 111, 102, 32, 114, 97, 110, 103, 101] }
def tabCells (k : IntKind) : List (DataW Unit) → List Value
  | .lit (.int _ n) :: l => .int k n :: tabCells k l
  | .agg [.lit (.int _ m), .lit (.int _ n)] :: l => .int k m :: .int k n :: tabCells k l
  | _ => []
def cellsOfTab (k : IntKind) : DataW Unit → Array Value
  | .agg l => (tabCells k l).toArray
  | _ => #[]
noncomputable def laidWorld (os : Os) : World :=
  let w0 := World.holding Tryd.prog os ⟨#[.cells #[.string synS] 175, .cells #[.string rngS] 175], #[], []⟩
  { w0 with heap := ((((((w0.heap.modify 1 fun
      | .cells _ t frozen => .cells #[.iface 173 (.pointer (some ⟨low, 0, none⟩))] t frozen
      | o => o).modify 2 fun
      | .cells _ t frozen => .cells #[.iface 173 (.pointer (some ⟨low + 1, 0, none⟩))] t frozen
      | o => o).modify 3 fun
      | .cells _ t frozen => .cells (cellsOfTab .u64 Rows.laid_internal_strconv_uint64pow10) t frozen
      | o => o).modify 6 fun
      | .cells _ t frozen => .cells (cellsOfTab .u8 Rows.laid_math_bits_deBruijn32tab) t frozen
      | o => o).modify 7 fun
      | .cells _ t frozen => .cells (cellsOfTab .u8 Rows.laid_math_bits_deBruijn64tab) t frozen
      | o => o).modify 4 fun
      | .cells _ t frozen => .cells (cellsOfTab .u8 Rows.laid_unicode_utf8_first) t frozen
      | o => o).modify 5 fun
      | .cells _ t frozen => .cells (cellsOfTab .u8 Rows.laid_unicode_utf8_acceptRanges) t frozen
      | o => o }
end Go.Proofs.YtnpbndglolcilaaDoor.rowsW
