/-
  spiritlevellaw45.LinesApart returns true for all verdicts, pass lists and engines, and leaves its input as it was (its tied card). Conditions: none. By an AI agent.
-/
import Derived.Test.YtnpbndglolcilaaDoorPtAT
import Derived.Test.YtnpbndglolcilaaDoorPtAS
namespace Go.Proofs.YtnpbndglolcilaaDoor.linesApart
open Go.ChangeShapes Go.WideShapes Go.ChangeAt Go.RowKit Go.Vm Go.Shelf Go.Proofs.YtnpbndglolcilaaDoor.rowsW
open Go.WideElems (Trod_stays)
set_option maxRecDepth 100000

theorem runs (W : World) (hg : Glob W) (x0 x1 x2 x3 x4 x5 : Value) (u0 : Ver) (u1 : Ver) (u2 : List (ByteArray × Int)) (u3 : List (ByteArray × Int)) (u4 : Eng) (u5 : Eng) (h0 : ∀ (φ : Vm.Id → Option Value) (F : Bool → Nat → Prop), (∀ g, g < W.heap.size → F false g) → repV φ W F (.agg (u0.pcs false)) x0) (h1 : ∀ (φ : Vm.Id → Option Value) (F : Bool → Nat → Prop), (∀ g, g < W.heap.size → F false g) → repV φ W F (.agg (u1.pcs false)) x1) (h2 : ∀ (φ : Vm.Id → Option Value) (F : Bool → Nat → Prop), (∀ g, g < W.heap.size → F false g) → repV φ W F (.one (.sl false u2.length (u2.flatMap fun p => [.c (.string p.1), .c (.int .i64 p.2)]))) x2) (h3 : ∀ (φ : Vm.Id → Option Value) (F : Bool → Nat → Prop), (∀ g, g < W.heap.size → F false g) → repV φ W F (.one (.sl false u3.length (u3.flatMap fun p => [.c (.string p.1), .c (.int .i64 p.2)]))) x3) (h4 : ∀ (φ : Vm.Id → Option Value) (F : Bool → Nat → Prop), (∀ g, g < W.heap.size → F false g) → repV φ W F (.agg u4.pcs) x4) (h5 : ∀ (φ : Vm.Id → Option Value) (F : Bool → Nat → Prop), (∀ g, g < W.heap.size → F false g) → repV φ W F (.agg u5.pcs) x5) :
    Calls Tryd.prog 7 #[x0, x1, x2, x3, x4, x5] W fun e w' => e = .returned (.bool true) ∧ Below W.heap.size W w' := by
  refine ((linesApart_call W hg u0 u1 u2 u3 u4 u5).run W _ (fun g => g < W.heap.size) (Nat.le_refl _) (fun _ _ => rfl) (fun _ h => h) ?_).mono fun e w' he => ?_
  · simp only [repVs]
    exact ⟨_, _, rfl, h0 _ _ (fun _ h => h), _, _, rfl, h1 _ _ (fun _ h => h), _, _, rfl, h2 _ _ (fun _ h => h), _, _, rfl, h3 _ _ (fun _ h => h), _, _, rfl, h4 _ _ (fun _ h => h), _, _, rfl, h5 _ _ (fun _ h => h), rfl⟩
  · obtain ⟨x, ψ, X, rfl, hb, _, hr, _⟩ := he
    simp only [repV, rep] at hr
    exact ⟨by rw [hr.1], hb⟩

theorem contract (H : Type) (enc : TypeId × Value → H) (W : World) (base : Nat) (args : Array Value) (ds gs : List (DataW H)) (before : List MemPlace)
    (hval : ∀ (j : Nat) t v, Tryd.f7.params[j]? = some t → args[j]? = some v → Value.okWide Tryd.prog W .any base t v)
    (hW : DataW.Whole enc Tryd.prog Tryd.f7.params.toList Rows.linesApartSpec.vars false W args.toList ds gs before) (hg : Glob W) :
    Calls Tryd.prog 7 args W fun e W' => ∃ v, e = .returned v ∧ Rows.linesApartSpec.post enc Tryd.prog Tryd.f7 false true false false W args v W' := by
  have hW' := hW
  obtain ⟨p, q, hA0, hV, rfl, hfz, hnd⟩ := hW
  have hA : DataW.TrodAll enc Tryd.prog W 0 (fun _ => true) true Tryd.f7.params.toList args.toList ds p := hA0
  rw [Tryd.params7] at hA hval
  obtain ⟨v0, vs0, d0, ds0, p0, q0, hargs, rfl, rfl, t0, r0⟩ := trodAll_cons hA
  obtain ⟨v1, vs1, d1, ds1, p1, q1, rfl, rfl, rfl, t1, r1⟩ := trodAll_cons r0
  obtain ⟨v2, vs2, d2, ds2, p2, q2, rfl, rfl, rfl, t2, r2⟩ := trodAll_cons r1
  obtain ⟨v3, vs3, d3, ds3, p3, q3, rfl, rfl, rfl, t3, r3⟩ := trodAll_cons r2
  obtain ⟨v4, vs4, d4, ds4, p4, q4, rfl, rfl, rfl, t4, r4⟩ := trodAll_cons r3
  obtain ⟨v5, vs5, d5, ds5, p5, q5, rfl, rfl, rfl, t5, r5⟩ := trodAll_cons r4
  obtain ⟨rfl, rfl, rfl⟩ := trodAll_nil r5
  obtain rfl : args = #[v0, v1, v2, v3, v4, v5] := by cases args; simp_all
  obtain ⟨rfl, rfl⟩ := trodVars_none hV
  obtain ⟨u0, o0⟩ := open_ver (hval 0 47 v0 rfl rfl) t0
  obtain ⟨u1, o1⟩ := open_ver (hval 1 47 v1 rfl rfl) t1
  obtain ⟨u2, o2⟩ := open_list (hval 2 57 v2 rfl rfl) t2
  obtain ⟨u3, o3⟩ := open_list (hval 3 57 v3 rfl rfl) t3
  obtain ⟨u4, o4⟩ := open_eng (hval 4 59 v4 rfl rfl) t4
  obtain ⟨u5, o5⟩ := open_eng (hval 5 59 v5 rfl rfl) t5
  clear hA0
  simp only [List.append_nil] at hW'
  have hlt0 : ∀ x ∈ p0, x.block < W.heap.size := fun x hx => hW'.lt x (by simp [hx])
  have hlt1 : ∀ x ∈ p1, x.block < W.heap.size := fun x hx => hW'.lt x (by simp [hx])
  have hlt2 : ∀ x ∈ p2, x.block < W.heap.size := fun x hx => hW'.lt x (by simp [hx])
  have hlt3 : ∀ x ∈ p3, x.block < W.heap.size := fun x hx => hW'.lt x (by simp [hx])
  have hlt4 : ∀ x ∈ p4, x.block < W.heap.size := fun x hx => hW'.lt x (by simp [hx])
  have hlt5 : ∀ x ∈ p5, x.block < W.heap.size := fun x hx => hW'.lt x (by simp [hx])
  refine (runs W hg _ _ _ _ _ _ u0 u1 u2 u3 u4 u5 o0 o1 o2 o3 o4 o5).mono fun e W' ⟨he, hb⟩ => ?_
  subst he
  refine ⟨_, rfl, post_of_below (pa := p0 ++ (p1 ++ (p2 ++ (p3 ++ (p4 ++ (p5 ++ [])))))) (pv := []) hW' (fun _ _ _ => trodAll_mk1 (shut_bool ty_u4 _)) (fun sp hsp => ?_) (fun _ _ => rfl) (by simp) hb (ok_one (by kernel_rfl) rfl (okWide_bool_mk ty_u4 _))⟩
  exact trodAll_cons_mk (Trod_stays laidOut (by kernel_rfl) (of_decide_eq_true (by kernel_rfl)) t0 (fun x hx => hb.same (hlt0 x hx)) fun x hx => hsp x (by simp [hx])) (
    trodAll_cons_mk (Trod_stays laidOut (by kernel_rfl) (of_decide_eq_true (by kernel_rfl)) t1 (fun x hx => hb.same (hlt1 x hx)) fun x hx => hsp x (by simp [hx])) (
    trodAll_cons_mk (Trod_stays laidOut (by kernel_rfl) (of_decide_eq_true (by kernel_rfl)) t2 (fun x hx => hb.same (hlt2 x hx)) fun x hx => hsp x (by simp [hx])) (
    trodAll_cons_mk (Trod_stays laidOut (by kernel_rfl) (of_decide_eq_true (by kernel_rfl)) t3 (fun x hx => hb.same (hlt3 x hx)) fun x hx => hsp x (by simp [hx])) (
    trodAll_cons_mk (Trod_stays laidOut (by kernel_rfl) (of_decide_eq_true (by kernel_rfl)) t4 (fun x hx => hb.same (hlt4 x hx)) fun x hx => hsp x (by simp [hx])) (
    trodAll_cons_mk (Trod_stays laidOut (by kernel_rfl) (of_decide_eq_true (by kernel_rfl)) t5 (fun x hx => hb.same (hlt5 x hx)) fun x hx => hsp x (by simp [hx])) (
    rfl))))))

theorem laid_met (os : Os) (args : Array Value) : laidMet Tryd.prog Rows.linesApartRow.laid ((laidWorld os).forCall (fun _ _ => 0) ⟨#[], args, []⟩).memory :=
  laidMet_of_run' 8 (by kernel_rfl) (by kernel_rfl)
theorem reads (os : Os) {H : Type} (enc : TypeId × Value → H) : ∃ places, DataW.whole enc Tryd.prog ((laidWorld os).forCall (fun _ _ => 0) ⟨#[], #[.agg #[.int .u8 0, .slice none 0 0, .slice none 0 0, .int .i64 0, .int .i64 0, .slice none 0 0, .int .i64 0], .agg #[.int .u8 0, .slice none 0 0, .slice none 0 0, .int .i64 0, .int .i64 0, .slice none 0 0, .int .i64 0], .slice none 0 0, .slice none 0 0, .agg #[.bool false, .int .i64 0, .int .i64 0], .agg #[.bool false, .int .i64 0, .int .i64 0]], []⟩).memory Tryd.f7.params.toList Rows.linesApartSpec.vars false (#[.agg #[.int .u8 0, .slice none 0 0, .slice none 0 0, .int .i64 0, .int .i64 0, .slice none 0 0, .int .i64 0], .agg #[.int .u8 0, .slice none 0 0, .slice none 0 0, .int .i64 0, .int .i64 0, .slice none 0 0, .int .i64 0], .slice none 0 0, .slice none 0 0, .agg #[.bool false, .int .i64 0, .int .i64 0], .agg #[.bool false, .int .i64 0, .int .i64 0]] : Array Value).toList 8 = some ([.agg [.lit (.int .u8 0), .agg [.nil, .nil], .agg [.lit (.int .i64 0), .lit (.int .i64 0), .agg [.nil, .lit (.int .i64 0)]]], .agg [.lit (.int .u8 0), .agg [.nil, .nil], .agg [.lit (.int .i64 0), .lit (.int .i64 0), .agg [.nil, .lit (.int .i64 0)]]], .nil, .nil, .agg [.lit (.bool false), .lit (.int .i64 0), .lit (.int .i64 0)], .agg [.lit (.bool false), .lit (.int .i64 0), .lit (.int .i64 0)]], [], places) :=
  ⟨[], by kernel_rfl⟩

theorem lifted (os : Os) (started : os.Started) (H : Type) (enc : TypeId × Value → H) (F : Stop.Interp) :
    ReturnsInHanded {} Tryd.checked os 7 .any ((OpenSpec.ofChange Rows.linesApartSpec).preRow enc Tryd.prog Tryd.f7 Rows.linesApartRow.domain false Rows.linesApartRow.laid) (((OpenSpec.ofChange Rows.linesApartSpec).at F).post enc Tryd.prog Tryd.f7 false true false false) := by
  obtain ⟨places, hx⟩ := reads os enc
  refine returnsInHanded_of_row (C := Tryd.checked) (s := OpenSpec.ofChange Rows.linesApartSpec) own started (by kernel_rfl) Tryd.func7
    (witness_row_at (enc := enc) (C := Tryd.checked) false (laidWorld os) #[.agg #[.int .u8 0, .slice none 0 0, .slice none 0 0, .int .i64 0, .int .i64 0, .slice none 0 0, .int .i64 0], .agg #[.int .u8 0, .slice none 0 0, .slice none 0 0, .int .i64 0, .int .i64 0, .slice none 0 0, .int .i64 0], .slice none 0 0, .slice none 0 0, .agg #[.bool false, .int .i64 0, .int .i64 0], .agg #[.bool false, .int .i64 0, .int .i64 0]] rfl (by kernel_rfl) (by kernel_rfl) (by kernel_rfl)
      (OpenSpec.preRow_of_cond 8 hx (by kernel_rfl) (fun k hk => by cases hk) (by kernel_rfl) (laid_met os _))) ?_
  intro W base args ds gs before hval hW _ _ _ hL hS _
  exact contract H enc W base args ds gs before hval hW (glob hL hS)

theorem said : Rows.LinesApartSaid :=
  OpenClaim.holds_of_cond 7 Tryd.f7 rfl rfl rfl rfl rfl rfl rfl ⟨rfl, rfl, rfl, rfl, rfl⟩ rfl rfl rfl rfl rfl (by kernel_rfl) Tryd.func7 (by kernel_rfl)
    (of_decide_eq_true (by kernel_rfl)) (by unfold Func.isWrapper; first | (rw [if_pos (by decide +kernel)]; kernel_rfl) | (rw [if_neg (by decide +kernel)]; exact ⟨rfl, rfl⟩))
    (fun os started H enc _ F => by rw [OpenClaim.pre_eq_preRow]; exact lifted os started H enc F)

theorem plain (f : FuncId) (fn : Func) (hf : Tryd.pinned.checked.prog.funcNamed "spiritlevel/spiritlevellaw45.LinesApart" = some f) (hfn : Tryd.pinned.checked.prog.funcs[f]? = some fn) :
    true = Tryd.pinned.checked.prog.looks [] ∧ ∀ (j : Nat) t, fn.params[j]? = some t → Tryd.pinned.checked.prog.wantsStandIn t = false := by
  obtain rfl : f = 7 := Option.some.inj ((show Tryd.prog.funcNamed "spiritlevel/spiritlevellaw45.LinesApart" = some 7 by kernel_rfl).symm.trans hf) |>.symm
  obtain rfl : fn = Tryd.f7 := (Option.some.inj (Tryd.func7.symm.trans hfn)).symm
  refine ⟨by kernel_rfl, fun j t ht => ?_⟩
  rw [Tryd.params7] at ht
  have : t = 47 ∨ t = 47 ∨ t = 57 ∨ t = 57 ∨ t = 59 ∨ t = 59 := by simpa [or_assoc] using Array.mem_of_getElem? ht
  rcases this with rfl | rfl | rfl | rfl | rfl | rfl
  · exact (show Tryd.prog.wantsStandIn 47 = false by kernel_rfl)
  · exact (show Tryd.prog.wantsStandIn 47 = false by kernel_rfl)
  · exact (show Tryd.prog.wantsStandIn 57 = false by kernel_rfl)
  · exact (show Tryd.prog.wantsStandIn 57 = false by kernel_rfl)
  · exact (show Tryd.prog.wantsStandIn 59 = false by kernel_rfl)
  · exact (show Tryd.prog.wantsStandIn 59 = false by kernel_rfl)

/-- THE CARD. -/
theorem card : Rows.LinesApartCardSaid :=
  Claim7.holds_tied_plain_at .later [] _ _ _ _ said (fun _ h => by cases h) (by kernel_rfl) (fun _ h => by cases h) linesApart_row_tie rfl ⟨rfl, rfl⟩ (by kernel_rfl) rfl plain (by kernel_rfl)
end Go.Proofs.YtnpbndglolcilaaDoor.linesApart
