/-
  spiritlevellaw45.LinesBack returns true for every verdict, pass list, engine and string, and leaves its input as it was (its tied card). Conditions: none. By an AI agent.
-/
import Derived.Test.YtnpbndglolcilaaGreatDoorPtAV
namespace Go.Proofs.YtnpbndglolcilaaGreatDoor.linesBack
open Go.ChangeShapes Go.WideShapes Go.ChangeAt Go.RowKit Go.Vm Go.Shelf Go.Proofs.YtnpbndglolcilaaGreatDoor.rowsW
open Go.WideElems (Trod_stays)
set_option maxRecDepth 100000

theorem runs (W : World) (hg : Glob W) (x0 x1 x2 x3 : Value) (u0 : Ver) (u1 : List (ByteArray × Int)) (u2 : Eng) (u3 : ByteArray) (h0 : ∀ (φ : Vm.Id → Option Value) (F : Bool → Nat → Prop), (∀ g, g < W.heap.size → F false g) → repV φ W F (.agg (u0.pcs false)) x0) (h1 : ∀ (φ : Vm.Id → Option Value) (F : Bool → Nat → Prop), (∀ g, g < W.heap.size → F false g) → repV φ W F (.one (.sl false u1.length (u1.flatMap fun p => [.c (.string p.1), .c (.int .i64 p.2)]))) x1) (h2 : ∀ (φ : Vm.Id → Option Value) (F : Bool → Nat → Prop), (∀ g, g < W.heap.size → F false g) → repV φ W F (.agg u2.pcs) x2) (h3 : ∀ (φ : Vm.Id → Option Value) (F : Bool → Nat → Prop), (∀ g, g < W.heap.size → F false g) → repV φ W F (.one (.c (.string u3))) x3) :
    Calls Tryz.prog 4 #[x0, x1, x2, x3] W fun e w' => e = .returned (.bool true) ∧ Below W.heap.size W w' := by
  refine ((linesBack_call W hg u0 u1 u2 u3).run W _ (fun g => g < W.heap.size) (Nat.le_refl _) (fun _ _ => rfl) (fun _ h => h) ?_).mono fun e w' he => ?_
  · simp only [repVs]
    exact ⟨_, _, rfl, h0 _ _ (fun _ h => h), _, _, rfl, h1 _ _ (fun _ h => h), _, _, rfl, h2 _ _ (fun _ h => h), _, _, rfl, h3 _ _ (fun _ h => h), rfl⟩
  · obtain ⟨x, ψ, X, rfl, hb, _, hr, _⟩ := he
    simp only [repV, rep] at hr
    exact ⟨by rw [hr.1], hb⟩

theorem contract (H : Type) (enc : TypeId × Value → H) (W : World) (base : Nat) (args : Array Value) (ds gs : List (DataW H)) (before : List MemPlace)
    (hval : ∀ (j : Nat) t v, Tryz.f4.params[j]? = some t → args[j]? = some v → Value.okWide Tryz.prog W .any base t v)
    (hW : DataW.Whole enc Tryz.prog Tryz.f4.params.toList Rows.linesBackSpec.vars false W args.toList ds gs before) (hg : Glob W) :
    Calls Tryz.prog 4 args W fun e W' => ∃ v, e = .returned v ∧ Rows.linesBackSpec.post enc Tryz.prog Tryz.f4 false true false false W args v W' := by
  have hW' := hW
  obtain ⟨p, q, hA0, hV, rfl, hfz, hnd⟩ := hW
  have hA : DataW.TrodAll enc Tryz.prog W 0 (fun _ => true) true Tryz.f4.params.toList args.toList ds p := hA0
  rw [Tryz.params4] at hA hval
  obtain ⟨v0, vs0, d0, ds0, p0, q0, hargs, rfl, rfl, t0, r0⟩ := trodAll_cons hA
  obtain ⟨v1, vs1, d1, ds1, p1, q1, rfl, rfl, rfl, t1, r1⟩ := trodAll_cons r0
  obtain ⟨v2, vs2, d2, ds2, p2, q2, rfl, rfl, rfl, t2, r2⟩ := trodAll_cons r1
  obtain ⟨v3, vs3, d3, ds3, p3, q3, rfl, rfl, rfl, t3, r3⟩ := trodAll_cons r2
  obtain ⟨rfl, rfl, rfl⟩ := trodAll_nil r3
  obtain rfl : args = #[v0, v1, v2, v3] := by cases args; simp_all
  obtain ⟨rfl, rfl⟩ := trodVars_none hV
  obtain ⟨u0, o0⟩ := open_ver (hval 0 34 v0 rfl rfl) t0
  obtain ⟨u1, o1⟩ := open_list (hval 1 39 v1 rfl rfl) t1
  obtain ⟨u2, o2⟩ := open_eng (hval 2 42 v2 rfl rfl) t2
  obtain ⟨u3, o3⟩ := open_str (hval 3 9 v3 rfl rfl) t3
  clear hA0
  simp only [List.append_nil] at hW'
  have hlt0 : ∀ x ∈ p0, x.block < W.heap.size := fun x hx => hW'.lt x (by simp [hx])
  have hlt1 : ∀ x ∈ p1, x.block < W.heap.size := fun x hx => hW'.lt x (by simp [hx])
  have hlt2 : ∀ x ∈ p2, x.block < W.heap.size := fun x hx => hW'.lt x (by simp [hx])
  have hlt3 : ∀ x ∈ p3, x.block < W.heap.size := fun x hx => hW'.lt x (by simp [hx])
  refine (runs W hg _ _ _ _ u0 u1 u2 u3 o0 o1 o2 o3).mono fun e W' ⟨he, hb⟩ => ?_
  subst he
  refine ⟨_, rfl, post_of_below (pa := p0 ++ (p1 ++ (p2 ++ (p3 ++ [])))) (pv := []) hW' (fun _ _ _ => trodAll_mk1 (shut_bool ty_u4 _)) (fun sp hsp => ?_) (fun _ _ => rfl) (by simp) hb (ok_one (by kernel_rfl) rfl (okWide_bool_mk ty_u4 _))⟩
  exact trodAll_cons_mk (Trod_stays laidOut (by kernel_rfl) (of_decide_eq_true (by kernel_rfl)) t0 (fun x hx => hb.same (hlt0 x hx)) fun x hx => hsp x (by simp [hx])) (
    trodAll_cons_mk (Trod_stays laidOut (by kernel_rfl) (of_decide_eq_true (by kernel_rfl)) t1 (fun x hx => hb.same (hlt1 x hx)) fun x hx => hsp x (by simp [hx])) (
    trodAll_cons_mk (Trod_stays laidOut (by kernel_rfl) (of_decide_eq_true (by kernel_rfl)) t2 (fun x hx => hb.same (hlt2 x hx)) fun x hx => hsp x (by simp [hx])) (
    trodAll_cons_mk (Trod_stays laidOut (by kernel_rfl) (of_decide_eq_true (by kernel_rfl)) t3 (fun x hx => hb.same (hlt3 x hx)) fun x hx => hsp x (by simp [hx])) (
    rfl))))

theorem laid_met (os : Os) (args : Array Value) : laidMet Tryz.prog Rows.linesBackRow.laid ((laidWorld os).forCall (fun _ _ => 0) ⟨#[], args, []⟩).memory :=
  laidMet_of_run' 8 (by kernel_rfl) (by kernel_rfl)
theorem reads (os : Os) {H : Type} (enc : TypeId × Value → H) : ∃ places, DataW.whole enc Tryz.prog ((laidWorld os).forCall (fun _ _ => 0) ⟨#[], #[.agg #[.int .u8 0, .slice none 0 0, .slice none 0 0, .int .i64 0, .int .i64 0, .slice none 0 0, .int .i64 0], .slice none 0 0, .agg #[.bool false, .int .i64 0, .int .i64 0], .string ⟨#[]⟩], []⟩).memory Tryz.f4.params.toList Rows.linesBackSpec.vars false (#[.agg #[.int .u8 0, .slice none 0 0, .slice none 0 0, .int .i64 0, .int .i64 0, .slice none 0 0, .int .i64 0], .slice none 0 0, .agg #[.bool false, .int .i64 0, .int .i64 0], .string ⟨#[]⟩] : Array Value).toList 8 = some ([.agg [.lit (.int .u8 0), .agg [.nil, .nil], .agg [.lit (.int .i64 0), .lit (.int .i64 0), .agg [.nil, .lit (.int .i64 0)]]], .nil, .agg [.lit (.bool false), .lit (.int .i64 0), .lit (.int .i64 0)], .lit (.string [])], [], places) :=
  ⟨[], by kernel_rfl⟩

theorem lifted (os : Os) (started : os.Started) (H : Type) (enc : TypeId × Value → H) (F : Stop.Interp) :
    ReturnsInHanded {} Tryz.checked os 4 .any ((OpenSpec.ofChange Rows.linesBackSpec).preRow enc Tryz.prog Tryz.f4 Rows.linesBackRow.domain false Rows.linesBackRow.laid) (((OpenSpec.ofChange Rows.linesBackSpec).at F).post enc Tryz.prog Tryz.f4 false true false false) := by
  obtain ⟨places, hx⟩ := reads os enc
  refine returnsInHanded_of_row (C := Tryz.checked) (s := OpenSpec.ofChange Rows.linesBackSpec) own started (by kernel_rfl) Tryz.func4
    (witness_row_at (enc := enc) (C := Tryz.checked) false (laidWorld os) #[.agg #[.int .u8 0, .slice none 0 0, .slice none 0 0, .int .i64 0, .int .i64 0, .slice none 0 0, .int .i64 0], .slice none 0 0, .agg #[.bool false, .int .i64 0, .int .i64 0], .string ⟨#[]⟩] rfl (by kernel_rfl) (by kernel_rfl) (by kernel_rfl)
      (OpenSpec.preRow_of_cond 8 hx (by kernel_rfl) (fun k hk => by cases hk) (by kernel_rfl) (laid_met os _))) ?_
  intro W base args ds gs before hval hW _ _ _ hL hS _
  exact contract H enc W base args ds gs before hval hW (glob hL hS)

theorem said : Rows.LinesBackSaid :=
  OpenClaim.holds_of_cond 4 Tryz.f4 rfl rfl rfl rfl rfl rfl rfl ⟨rfl, rfl, rfl, rfl, rfl⟩ rfl rfl rfl rfl rfl (by kernel_rfl) Tryz.func4 (by kernel_rfl)
    (of_decide_eq_true (by kernel_rfl)) (by unfold Func.isWrapper; first | (rw [if_pos (by decide +kernel)]; kernel_rfl) | (rw [if_neg (by decide +kernel)]; exact ⟨rfl, rfl⟩))
    (fun os started H enc _ F => by rw [OpenClaim.pre_eq_preRow]; exact lifted os started H enc F)

theorem plain (f : FuncId) (fn : Func) (hf : Tryz.pinned.checked.prog.funcNamed "spiritlevel/spiritlevellaw45.LinesBack" = some f) (hfn : Tryz.pinned.checked.prog.funcs[f]? = some fn) :
    true = Tryz.pinned.checked.prog.looks [] ∧ ∀ (j : Nat) t, fn.params[j]? = some t → Tryz.pinned.checked.prog.wantsStandIn t = false := by
  obtain rfl : f = 4 := Option.some.inj ((show Tryz.prog.funcNamed "spiritlevel/spiritlevellaw45.LinesBack" = some 4 by kernel_rfl).symm.trans hf) |>.symm
  obtain rfl : fn = Tryz.f4 := (Option.some.inj (Tryz.func4.symm.trans hfn)).symm
  refine ⟨by kernel_rfl, fun j t ht => ?_⟩
  rw [Tryz.params4] at ht
  have : t = 34 ∨ t = 39 ∨ t = 42 ∨ t = 9 := by simpa [or_assoc] using Array.mem_of_getElem? ht
  rcases this with rfl | rfl | rfl | rfl
  · exact (show Tryz.prog.wantsStandIn 34 = false by kernel_rfl)
  · exact (show Tryz.prog.wantsStandIn 39 = false by kernel_rfl)
  · exact (show Tryz.prog.wantsStandIn 42 = false by kernel_rfl)
  · exact (show Tryz.prog.wantsStandIn 9 = false by kernel_rfl)

/-- THE CARD. -/
theorem card : Rows.LinesBackCardSaid :=
  Claim7.holds_tied_plain_at .later [] _ _ _ _ said (fun _ h => by cases h) (by kernel_rfl) (fun _ h => by cases h) linesBack_row_tie rfl ⟨rfl, rfl⟩ (by kernel_rfl) rfl plain (by kernel_rfl)
end Go.Proofs.YtnpbndglolcilaaGreatDoor.linesBack
