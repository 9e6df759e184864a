/-
  Walks of the program's functions by the framework, and what they compute (PtA). Conditions: each theorem's own premises. By an AI agent.
-/
import Derived.Test.YtnpbndglolcilaaDoorVmJ
import Derived.Test.YtnpbndglolcilaaDoorProg
import Derived.Test.YtnpbndglolcilaaDoorPtShelf
import Derived.Lib.ConvBytes
import Derived.Shelf.Strings.Builder1
section
namespace Go.Vm
open Go Go.RowKit Go.Proofs
set_option maxRecDepth 100000
set_option linter.unusedSimpArgs false
set_option linter.unusedVariables false
set_option maxHeartbeats 4000000
theorem ty_u3 : Tryd.prog.underlying 3 = some (.int .i64) := by kernel_rfl
theorem ty_s3 : szT Tryd.prog 3 = some 1 := by kernel_rfl
theorem ty_b3 : bytesT Tryd.prog 3 = some 8 := by kernel_rfl
theorem ty_z3 : zeroCellsT Tryd.prog 3 = some [.c (.int .i64 0)] := by kernel_rfl
theorem ty_u4 : Tryd.prog.underlying 4 = some (.bool) := by kernel_rfl
theorem ty_s4 : szT Tryd.prog 4 = some 1 := by kernel_rfl
theorem ty_b4 : bytesT Tryd.prog 4 = some 1 := by kernel_rfl
theorem ty_z4 : zeroCellsT Tryd.prog 4 = some [.c (.bool false)] := by kernel_rfl
theorem ty_u5 : Tryd.prog.underlying 5 = some (.int .u8) := by kernel_rfl
theorem ty_s5 : szT Tryd.prog 5 = some 1 := by kernel_rfl
theorem ty_b5 : bytesT Tryd.prog 5 = some 1 := by kernel_rfl
theorem ty_z5 : zeroCellsT Tryd.prog 5 = some [.c (.int .u8 0)] := by kernel_rfl
theorem ty_v5 : zeroT Tryd.prog 5 = some (.int .u8 0) := by kernel_rfl
theorem ty_u9 : Tryd.prog.underlying 9 = some (.string) := by kernel_rfl
theorem ty_s9 : szT Tryd.prog 9 = some 1 := by kernel_rfl
theorem ty_b9 : bytesT Tryd.prog 9 = some 16 := by kernel_rfl
theorem ty_z9 : zeroCellsT Tryd.prog 9 = some [.c (.string ⟨#[]⟩)] := by kernel_rfl
theorem ty_u23 : Tryd.prog.underlying 23 = some (.struct #[⟨ "Name", 9, 0, false, "", "", 0⟩, ⟨ "Number", 3, 1, false, "", "", 16⟩]) := by kernel_rfl
theorem ty_s23 : szT Tryd.prog 23 = some 2 := by kernel_rfl
theorem ty_b23 : bytesT Tryd.prog 23 = some 24 := by kernel_rfl
theorem ty_z23 : zeroCellsT Tryd.prog 23 = some [.c (.string ⟨#[]⟩), .c (.int .i64 0)] := by kernel_rfl
theorem ty_e23 : eqOkT Tryd.prog 23 = true := by kernel_rfl
theorem ty_u24 : Tryd.prog.underlying 24 = some (.int .i64) := by kernel_rfl
theorem ty_s24 : szT Tryd.prog 24 = some 1 := by kernel_rfl
theorem ty_b24 : bytesT Tryd.prog 24 = some 8 := by kernel_rfl
theorem ty_z24 : zeroCellsT Tryd.prog 24 = some [.c (.int .i64 0)] := by kernel_rfl
theorem ty_u37 : Tryd.prog.underlying 37 = some (.slice 4) := by kernel_rfl
theorem ty_s37 : szT Tryd.prog 37 = some 1 := by kernel_rfl
theorem ty_b37 : bytesT Tryd.prog 37 = some 24 := by kernel_rfl
theorem ty_z37 : zeroCellsT Tryd.prog 37 = some [.c (.slice none 0 0)] := by kernel_rfl
theorem ty_u38 : Tryd.prog.underlying 38 = some (.slice 37) := by kernel_rfl
theorem ty_s38 : szT Tryd.prog 38 = some 1 := by kernel_rfl
theorem ty_b38 : bytesT Tryd.prog 38 = some 24 := by kernel_rfl
theorem ty_z38 : zeroCellsT Tryd.prog 38 = some [.c (.slice none 0 0)] := by kernel_rfl
theorem ty_u40 : Tryd.prog.underlying 40 = some (.struct #[⟨ "First", 37, 0, false, "", "", 0⟩, ⟨ "Inputs", 38, 1, false, "", "", 24⟩]) := by kernel_rfl
theorem ty_s40 : szT Tryd.prog 40 = some 2 := by kernel_rfl
theorem ty_b40 : bytesT Tryd.prog 40 = some 48 := by kernel_rfl
theorem ty_z40 : zeroCellsT Tryd.prog 40 = some [.c (.slice none 0 0), .c (.slice none 0 0)] := by kernel_rfl
theorem ty_u41 : Tryd.prog.underlying 41 = some (.slice 97) := by kernel_rfl
theorem ty_s41 : szT Tryd.prog 41 = some 1 := by kernel_rfl
theorem ty_b41 : bytesT Tryd.prog 41 = some 24 := by kernel_rfl
theorem ty_z41 : zeroCellsT Tryd.prog 41 = some [.c (.slice none 0 0)] := by kernel_rfl
theorem ty_u43 : Tryd.prog.underlying 43 = some (.struct #[⟨ "Ands", 41, 0, false, "", "", 0⟩, ⟨ "Lit", 3, 1, false, "", "", 24⟩]) := by kernel_rfl
theorem ty_s43 : szT Tryd.prog 43 = some 2 := by kernel_rfl
theorem ty_b43 : bytesT Tryd.prog 43 = some 32 := by kernel_rfl
theorem ty_z43 : zeroCellsT Tryd.prog 43 = some [.c (.slice none 0 0), .c (.int .i64 0)] := by kernel_rfl
theorem ty_u45 : Tryd.prog.underlying 45 = some (.struct #[⟨ "Skip", 3, 0, false, "", "", 0⟩, ⟨ "Phases", 3, 1, false, "", "", 8⟩, ⟨ "Pred", 43, 2, false, "", "", 16⟩]) := by kernel_rfl
theorem ty_s45 : szT Tryd.prog 45 = some 4 := by kernel_rfl
theorem ty_b45 : bytesT Tryd.prog 45 = some 48 := by kernel_rfl
theorem ty_z45 : zeroCellsT Tryd.prog 45 = some [.c (.int .i64 0), .c (.int .i64 0), .c (.slice none 0 0), .c (.int .i64 0)] := by kernel_rfl
theorem ty_u47 : Tryd.prog.underlying 47 = some (.struct #[⟨ "Kind", 5, 0, false, "", "", 0⟩, ⟨ "Trace", 40, 1, false, "", "", 8⟩, ⟨ "Proof", 45, 3, false, "", "", 56⟩]) := by kernel_rfl
theorem ty_s47 : szT Tryd.prog 47 = some 7 := by kernel_rfl
theorem ty_b47 : bytesT Tryd.prog 47 = some 104 := by kernel_rfl
theorem ty_z47 : zeroCellsT Tryd.prog 47 = some [.c (.int .u8 0), .c (.slice none 0 0), .c (.slice none 0 0), .c (.int .i64 0), .c (.int .i64 0), .c (.slice none 0 0), .c (.int .i64 0)] := by kernel_rfl
theorem ty_u57 : Tryd.prog.underlying 57 = some (.slice 23) := by kernel_rfl
theorem ty_s57 : szT Tryd.prog 57 = some 1 := by kernel_rfl
theorem ty_b57 : bytesT Tryd.prog 57 = some 24 := by kernel_rfl
theorem ty_z57 : zeroCellsT Tryd.prog 57 = some [.c (.slice none 0 0)] := by kernel_rfl
theorem ty_u59 : Tryd.prog.underlying 59 = some (.struct #[⟨ "Pdr", 4, 0, false, "", "", 0⟩, ⟨ "Number", 3, 1, false, "", "", 8⟩, ⟨ "Budget", 3, 2, false, "", "", 16⟩]) := by kernel_rfl
theorem ty_s59 : szT Tryd.prog 59 = some 3 := by kernel_rfl
theorem ty_b59 : bytesT Tryd.prog 59 = some 24 := by kernel_rfl
theorem ty_z59 : zeroCellsT Tryd.prog 59 = some [.c (.bool false), .c (.int .i64 0), .c (.int .i64 0)] := by kernel_rfl
theorem ty_e59 : eqOkT Tryd.prog 59 = true := by kernel_rfl
theorem ty_u74 : Tryd.prog.underlying 74 = some (.slice 9) := by kernel_rfl
theorem ty_s74 : szT Tryd.prog 74 = some 1 := by kernel_rfl
theorem ty_b74 : bytesT Tryd.prog 74 = some 24 := by kernel_rfl
theorem ty_z74 : zeroCellsT Tryd.prog 74 = some [.c (.slice none 0 0)] := by kernel_rfl
theorem ty_u89 : Tryd.prog.underlying 89 = some (.pointer 92) := by kernel_rfl
theorem ty_s89 : szT Tryd.prog 89 = some 1 := by kernel_rfl
theorem ty_b89 : bytesT Tryd.prog 89 = some 8 := by kernel_rfl
theorem ty_z89 : zeroCellsT Tryd.prog 89 = some [.c (.pointer none)] := by kernel_rfl
theorem ty_u90 : Tryd.prog.underlying 90 = some (.slice 5) := by kernel_rfl
theorem ty_s90 : szT Tryd.prog 90 = some 1 := by kernel_rfl
theorem ty_b90 : bytesT Tryd.prog 90 = some 24 := by kernel_rfl
theorem ty_z90 : zeroCellsT Tryd.prog 90 = some [.c (.slice none 0 0)] := by kernel_rfl
theorem ty_u92 : Tryd.prog.underlying 92 = some (.struct #[⟨ "addr", 89, 0, false, "", "strings", 0⟩, ⟨ "buf", 90, 1, false, "", "strings", 8⟩]) := by kernel_rfl
theorem ty_s92 : szT Tryd.prog 92 = some 2 := by kernel_rfl
theorem ty_b92 : bytesT Tryd.prog 92 = some 32 := by kernel_rfl
theorem ty_z92 : zeroCellsT Tryd.prog 92 = some [.c (.pointer none), .c (.slice none 0 0)] := by kernel_rfl
theorem ty_u97 : Tryd.prog.underlying 97 = some (.struct #[⟨ "A", 3, 0, false, "", "", 0⟩, ⟨ "B", 3, 1, false, "", "", 8⟩]) := by kernel_rfl
theorem ty_s97 : szT Tryd.prog 97 = some 2 := by kernel_rfl
theorem ty_b97 : bytesT Tryd.prog 97 = some 16 := by kernel_rfl
theorem ty_z97 : zeroCellsT Tryd.prog 97 = some [.c (.int .i64 0), .c (.int .i64 0)] := by kernel_rfl
theorem ty_e97 : eqOkT Tryd.prog 97 = true := by kernel_rfl
theorem ty_u125 : Tryd.prog.underlying 125 = some (.pointer 5) := by kernel_rfl
theorem ty_s125 : szT Tryd.prog 125 = some 1 := by kernel_rfl
theorem ty_b125 : bytesT Tryd.prog 125 = some 8 := by kernel_rfl
theorem ty_z125 : zeroCellsT Tryd.prog 125 = some [.c (.pointer none)] := by kernel_rfl
theorem ty_u141 : Tryd.prog.underlying 141 = some (.slice 3) := by kernel_rfl
theorem ty_s141 : szT Tryd.prog 141 = some 1 := by kernel_rfl
theorem ty_b141 : bytesT Tryd.prog 141 = some 24 := by kernel_rfl
theorem ty_z141 : zeroCellsT Tryd.prog 141 = some [.c (.slice none 0 0)] := by kernel_rfl
theorem ty_u142 : Tryd.prog.underlying 142 = some (.unsafePointer) := by kernel_rfl
theorem ty_s142 : szT Tryd.prog 142 = some 1 := by kernel_rfl
theorem ty_b142 : bytesT Tryd.prog 142 = some 8 := by kernel_rfl
theorem mixed : Tryd.prog.follows .mixedOrders = true := by kernel_rfl
attribute [push_cast] ty_u3 ty_s3 ty_b3 ty_z3 ty_u4 ty_s4 ty_b4 ty_z4 ty_u5 ty_s5 ty_b5 ty_z5 ty_v5 ty_u9 ty_s9 ty_b9 ty_z9 ty_u23 ty_s23 ty_b23 ty_z23 ty_e23 ty_u24 ty_s24 ty_b24 ty_z24 ty_u37 ty_s37 ty_b37 ty_z37 ty_u38 ty_s38 ty_b38 ty_z38 ty_u40 ty_s40 ty_b40 ty_z40 ty_u41 ty_s41 ty_b41 ty_z41 ty_u43 ty_s43 ty_b43 ty_z43 ty_u45 ty_s45 ty_b45 ty_z45 ty_u47 ty_s47 ty_b47 ty_z47 ty_u57 ty_s57 ty_b57 ty_z57 ty_u59 ty_s59 ty_b59 ty_z59 ty_e59 ty_u74 ty_s74 ty_b74 ty_z74 ty_u89 ty_s89 ty_b89 ty_z89 ty_u90 ty_s90 ty_b90 ty_z90 ty_u92 ty_s92 ty_b92 ty_z92 ty_u97 ty_s97 ty_b97 ty_z97 ty_e97 ty_u125 ty_s125 ty_b125 ty_z125 ty_u141 ty_s141 ty_b141 ty_z141 ty_u142 ty_s142 ty_b142
end Go.Vm
end

section
namespace Go.Vm
open Go Go.RowKit Go.Proofs
set_option maxRecDepth 100000
set_option linter.unusedSimpArgs false
set_option linter.unusedVariables false
set_option maxHeartbeats 4000000

def names8 : List ByteArray := [⟨#[104, 97, 115, 104]⟩, ⟨#[99, 111, 110, 115, 116, 97, 110, 116, 115]⟩, ⟨#[99, 111, 110, 101]⟩, ⟨#[115, 119, 101, 101, 112]⟩, ⟨#[116, 101, 114, 110, 97, 114, 121]⟩, ⟨#[108, 97, 116, 99, 104, 101, 115]⟩, ⟨#[112, 114, 101, 102, 105, 120]⟩, ⟨#[112, 104, 97, 115, 101, 115]⟩]
theorem callable_of {f : FuncId} {fn : Func} (h : Tryd.prog.funcs[f]? = some fn) (h1 : (fn.name == "runtime.NumGoroutine") = false) (h2 : fn.body.isNone = false) : Callable Tryd.prog f := ⟨fn, h, h1, h2⟩

theorem itoa_call (gw : World) (gb : Nat) (i : Nat) (hi : i < 100) : VCall Tryd.prog gw gb 31 [.one (.c (.int .i64 i))] (.one (.c (.string ⟨(Lib.decDigits i).toArray⟩))) [] :=
  vcall_plain (callable_of Tryd.func31 rfl rfl) [.int .i64 i] _ fun w _ => (Tryd.strconv_Itoa_small i hi w).mono fun e w' ⟨he, hw⟩ => ⟨_, he, hw ▸ Below.refl _ _, fun F => by simp only [repV, rep]; exact ⟨trivial, rfl⟩⟩

theorem contains_call (gw : World) (gb : Nat) (ss : List ByteArray) (x : ByteArray) (hs : ss.length ≤ 9223372036854775807) :
    VCall Tryd.prog gw gb 38 [.one (.sl false (ss.map Value.string).length ((ss.map Value.string).map .c)), .one (.c (.string x))] (.one (.c (.bool (Lib.containsS ss x)))) [] := by
  refine vcall_row (callable_of Tryd.func38 rfl rfl) (ss.map Value.string) [.string x] _ (fun w b off cap _ hb hcap hcell => ?_) (fun h0 w A cap _ => ?_)
  · have := Tryd.slices_Contains_string b off ss.length cap ss x w (Nat.le_refl _) hs (fun j hj => hcell j _ (by simp [List.getElem?_eq_getElem hj, List.getD]))
    rw [List.take_length] at this
    simp only [List.length_map]
    exact this.mono fun e w' ⟨he, hw⟩ => ⟨_, he, hw ▸ Below.refl _ _, fun F => by simp only [repV, rep]; exact ⟨trivial, rfl⟩⟩
  · have h0 : ss = [] := by simpa using h0
    subst h0
    exact (Tryd.slices_Contains_string_empty A cap x w).mono fun e w' ⟨he, hw⟩ => ⟨_, he, hw ▸ Below.refl _ _, fun F => by simp only [repV, rep]; exact ⟨by first | trivial | rfl | simp [Lib.containsS], rfl⟩⟩
end Go.Vm
end

section
namespace Go.Vm
open Go Go.RowKit Go.Proofs
set_option maxRecDepth 100000
set_option linter.unusedSimpArgs false
set_option linter.unusedVariables false
set_option maxHeartbeats 4000000

structure Glob (gw : World) : Prop where
  pow10 : Lib.TabIs Tryd.prog gw "internal/strconv.uint64pow10" .u64 Lib.pow10Tab
  maxlen : ∃ m, gw.cell? ⟨0, 0, none⟩ = some (.int .i64 m)
  esyn : ∃ tp p, gw.var? Tryd.prog "strconv.ErrSyntax" = some #[.iface tp p]
  erange : ∃ tp p, gw.var? Tryd.prog "strconv.ErrRange" = some #[.iface tp p]

theorem var_alike {gw w : World} (ha : Alike gw gw.heap.size w) {name : String} {cs : Array Value} (h : gw.var? Tryd.prog name = some cs) : w.var? Tryd.prog name = some cs := by
  unfold World.var? at h ⊢
  obtain ⟨g, hg, hc⟩ := Option.bind_eq_some_iff.1 h
  rw [hg, Option.bind_some]
  have hlt : g < gw.heap.size := by
    apply Classical.byContradiction
    intro hge
    rw [Array.getElem?_eq_none (by omega)] at hc
    cases hc
  rw [ha.2 g hlt]
  exact hc

theorem cell_alike {gw w : World} (ha : Alike gw gw.heap.size w) {a : Addr} {v : Value} (h : gw.cell? a = some v) : w.cell? a = some v := by
  have hlt : a.block < gw.heap.size := by
    apply Classical.byContradiction
    intro hge
    unfold World.cell? at h
    rw [Array.getElem?_eq_none (by omega)] at h
    cases h
  rw [World.cell?_of_block (ha.2 a.block hlt)]
  exact h

def atoiV (t : ByteArray) : Int :=
  match Lib.atoiAll t.data.toList with
  | .ok v => v
  | .range => Lib.atoiSat t.data.toList
  | _ => 0
def atoiE (t : ByteArray) : PC :=
  match Lib.atoiAll t.data.toList with
  | .ok _ => .c .nilIface
  | _ => .ifc

theorem atoi_call (gw : World) (hg : Glob gw) (t : ByteArray) (ht : t.size ≤ 1000000) : VCall Tryd.prog gw gw.heap.size 35 [.one (.c (.string t))] (.tup [.one (.c (.int .i64 (atoiV t))), .one (atoiE t)]) [] := by
  refine vcall_plain (callable_of Tryd.func35 rfl rfl) [.string t] _ fun w hw => ?_
  unfold atoiV atoiE
  cases h : Lib.atoiAll t.data.toList with
  | ok v =>
    refine (Tryd.strconv_Atoi_ok t (by omega) v h w).mono fun e w' ⟨he, hb⟩ => ⟨_, he, ?_, fun F => ?_⟩
    · rcases hb with rfl | ⟨t', rfl⟩
      · exact Below.refl _ _
      · exact ⟨rfl, rfl, rfl, by rw [Lib.bytesWorld_size]; omega, fun k hk => Lib.bytesWorld_at_old w 5 t' k hk⟩
    · simp only [repV, repVs, rep]
      exact ⟨_, rfl, _, _, rfl, ⟨rfl, rfl⟩, _, _, rfl, ⟨rfl, rfl⟩, rfl⟩
  | range =>
    obtain ⟨tp, p, hv⟩ := hg.erange
    refine (Tryd.strconv_Atoi_range_var t (by omega) h tp p w (var_alike hw hv)).mono fun e w' ⟨N, he, _, _, hb⟩ => ⟨_, he, hb, fun F => ?_⟩
    simp only [repV, repVs, rep]
    exact ⟨_, rfl, _, _, rfl, ⟨rfl, rfl⟩, _, _, rfl, ⟨_, _, rfl⟩, rfl⟩
  | _ =>
    obtain ⟨tp, p, hv⟩ := hg.esyn
    refine (Any.strconv_Atoi_syntax_var Tryd.laysC172 t (by omega) h tp p w (var_alike hw hv)).mono fun e w' ⟨N, he, _, _, hb⟩ => ⟨_, he, hb, fun F => ?_⟩
    simp only [repV, repVs, rep]
    exact ⟨_, rfl, _, _, rfl, ⟨rfl, rfl⟩, _, _, rfl, ⟨_, _, rfl⟩, rfl⟩

theorem atoiE_strict (t : ByteArray) : (PV.tup [.one (.c (.int .i64 (atoiV t))), .one (atoiE t)]).strict = true := by
  have : (atoiE t).strict = true := by unfold atoiE; split <;> rfl
  simp only [PV.strict, PV.stricts, this]; rfl

end Go.Vm
end

section
namespace Go.Vm
open Go Go.RowKit Go.Proofs
set_option maxHeartbeats 2000000
set_option maxRecDepth 100000

theorem builder_size : (Tryd.prog.info? 92).map (·.size) = some 2 := by kernel_rfl
theorem builder_lies : liesAt Tryd.prog Tryd.prog.depth 92 (2 / Tryd.prog.cellsOf 92) 0 92 1 = true := by kernel_rfl

theorem copyCheck_used (b : Nat) (w : World) (h0 : w.cell? ⟨b, 0, none⟩ = some (.pointer (some ⟨b, 0, none⟩))) :
    Calls Tryd.prog 77 #[.pointer (some ⟨b, 0, none⟩)] w fun e w' => e = .returned (.tuple #[]) ∧ w' = w := by
  obtain ⟨j, hj, _⟩ := Option.map_eq_some_iff.1 builder_size
  have mixed : Tryd.prog.follows .mixedOrders = true := by kernel_rfl
  have t92 := Tryd.underlying92; have a92 := Tryd.isAgg92; have z92 := Tryd.sizeOf92; have v92 := Tryd.zeroValue92; have u92 := run_underlying Tryd.underlying92
  have t89 := Tryd.underlying89; have a89 := Tryd.isAgg89; have z89 := Tryd.sizeOf89; have v89 := Tryd.zeroValue89; have u89 := run_underlying Tryd.underlying89
  have t4 := Tryd.underlying4; have a4 := Tryd.isAgg4; have z4 := Tryd.sizeOf4; have v4 := Tryd.zeroValue4; have u4 := run_underlying Tryd.underlying4
  have t142 := Tryd.underlying142; have a142 := Tryd.isAgg142; have z142 := Tryd.sizeOf142; have v142 := Tryd.zeroValue142; have u142 := run_underlying Tryd.underlying142
  go_enter Tryd.func77, Tryd.ntmps77
  go_wp2
  rw [Lib.run_neq_ptr_same w _ t89 hj]
  go_wp2
  go_end0
  exact ⟨rfl, rfl⟩

theorem copyCheck_fresh (b : Nat) (w : World) (h0 : w.cell? ⟨b, 0, none⟩ = some (.pointer none)) (hsh : w.shape? b = some (92, 2)) (hfz : w.frozen? ⟨b, 0, none⟩ = false) :
    Calls Tryd.prog 77 #[.pointer (some ⟨b, 0, none⟩)] w fun e w' => e = .returned (.tuple #[]) ∧ w' = w.setCell ⟨b, 0, none⟩ (.pointer (some ⟨b, 0, none⟩)) := by
  obtain ⟨j, hj, hjs⟩ := Option.map_eq_some_iff.1 builder_size
  have mixed : Tryd.prog.follows .mixedOrders = true := by kernel_rfl
  have t92 := Tryd.underlying92; have a92 := Tryd.isAgg92; have z92 := Tryd.sizeOf92; have v92 := Tryd.zeroValue92; have u92 := run_underlying Tryd.underlying92
  have t89 := Tryd.underlying89; have a89 := Tryd.isAgg89; have z89 := Tryd.sizeOf89; have v89 := Tryd.zeroValue89; have u89 := run_underlying Tryd.underlying89
  have t4 := Tryd.underlying4; have a4 := Tryd.isAgg4; have z4 := Tryd.sizeOf4; have v4 := Tryd.zeroValue4; have u4 := run_underlying Tryd.underlying4
  have t142 := Tryd.underlying142; have a142 := Tryd.isAgg142; have z142 := Tryd.sizeOf142; have v142 := Tryd.zeroValue142; have u142 := run_underlying Tryd.underlying142
  go_enter Tryd.func77, Tryd.ntmps77
  go_wp2
  rw [Lib.run_to_unsafe w ⟨b, 0, none⟩ t89 t142 hj (by rw [hjs]; decide) hsh (Nat.zero_lt_succ 1)]
  simp only [Result.andThen]
  rw [Oper.upon_value]
  go_wp2
  rw [run_callFunc_extern Tryd.func97 (by kernel_rfl) (by kernel_rfl) (by kernel_rfl) (e := Extern.AbiNoEscape.same) (by kernel_rfl)]
  rw [Lib.run_noEscape]
  simp only [Result.andThen]
  rw [Oper.upon_value]
  go_wp2
  rw [Lib.run_from_unsafe w ⟨b, 0, none⟩ t142 t89 hj hsh builder_lies]
  simp only [Result.andThen]
  rw [Oper.upon_value]
  go_wp2
  go_end0
  exact ⟨rfl, rfl⟩
end Go.Vm
end

section
namespace Go.Vm
open Go Go.RowKit Go.Proofs
set_option maxRecDepth 100000
set_option linter.unusedSimpArgs false
set_option linter.unusedVariables false
set_option maxHeartbeats 4000000

def inTo (top n : Int) : Bool := decide (0 ≤ n ∧ n ≤ top)
theorem inTo_true {top n : Int} (h : ¬ (n < 0 ∨ top < n)) : inTo top n = true := by unfold inTo; simp; omega
theorem inTo_false {top n : Int} (h : n < 0 ∨ top < n) : inTo top n = false := by unfold inTo; simp; omega
theorem within_call (gw : World) (gb : Nat) (top : Int) (l : List Int) (hl : l.length ≤ 100000) : VCall Tryd.prog gw (gb) 76 [.one (.c (.int .i64 top)), .one (.sl false l.length (l.map fun n => .c (.int .i64 n)))] (.one (.c (.bool (l.all (inTo top))))) [] := by
  refine vcall_of [.tmp 4] Tryd.func76 rfl rfl Tryd.ntmps76 rfl (by simp) ?_
  intro C hP hnt hgw hgb hfull
  refine vwp_seq_region rfl fun K hK => ?_
  simp (dsimp := false) only [push_cast, hP, hnt, hgw, hgb, Nat.reduceLT, Nat.reduceEqDiff, Nat.reduceAdd, Nat.reduceSub, Nat.reduceMul, Nat.reduceLeDiff, ↓reduceIte, reduceCtorEq]
  refine hK _ ?_; clear hK
  refine vwp_seq fun K hK => ?_
  refine vwp_seq_region rfl fun K hK => ?_
  simp (dsimp := false) only [push_cast, hP, hnt, hgw, hgb, Nat.reduceLT, Nat.reduceEqDiff, Nat.reduceAdd, Nat.reduceSub, Nat.reduceMul, Nat.reduceLeDiff, ↓reduceIte, reduceCtorEq]
  refine hK _ ?_; clear hK
  refine vwp_block ?_
  refine vwp_loop (fun m σ => ∃ (i : Int), m = (l.length - i).toNat ∧ ((0 ≤ i) ∧ (i ≤ l.length) ∧ ((l.drop i.toNat).all (inTo top) = l.all (inTo top))) ∧ σ = St.of [(0, .one (.c (.int .i64 top))), (7, .one (.sl false l.length (l.map fun n => .c (.int .i64 n)))), (8, .one (.c (.int .i64 l.length))), (9, .one (.c (.int .i64 i)))] [] []) _ ⟨_, ?_, 0, rfl, ?_, rfl⟩ ?_
  · refine wk_conv [] [] (by simp) (by simp) (by decide) ?_ ?_
    · refine hf_cons (by simp (dsimp := false) only [push_cast, ↓reduceIte, Nat.reduceEqDiff, Nat.reduceAdd, reduceCtorEq] <;> rfl) (by exact ConvV.self rfl) ?_
      refine hf_cons (by simp (dsimp := false) only [push_cast, ↓reduceIte, Nat.reduceEqDiff, Nat.reduceAdd, reduceCtorEq] <;> rfl) (by repeat' (first | exact ConvVs.nil | exact ConvL.nil | refine ConvV.tup ?_ | refine ConvVs.cons ?_ ?_ | (refine ConvV.self ?_; simp only [push_cast]; done) | refine ConvV.one ?_ | refine ConvV.agg ?_ | (refine ConvL.free ?_; simp only [push_cast]; done) | refine ConvL.append ?_ ?_ | refine ConvL.cons ?_ ?_ | exact Conv.free rfl | exact Conv.nil | (refine Conv.own ?_; simp; done) | (refine Conv.loc ?_; simp; done) | refine Conv.frz (by simp) (by simp (dsimp := false) only [push_cast, ↓reduceIte, Nat.reduceEqDiff, Nat.reduceAdd, reduceCtorEq] <;> rfl) ?_ | refine Conv.sl (by simp) ?_ | refine Conv.fn ?_)) ?_
      refine hf_cons (by simp (dsimp := false) only [push_cast, ↓reduceIte, Nat.reduceEqDiff, Nat.reduceAdd, reduceCtorEq] <;> rfl) (by exact ConvV.self rfl) ?_
      refine hf_cons (by simp (dsimp := false) only [push_cast, ↓reduceIte, Nat.reduceEqDiff, Nat.reduceAdd, reduceCtorEq] <;> rfl) (by exact ConvV.self rfl) ?_
      exact hf_nil
    · exact hh_nil
  · exact ⟨by omega, by omega, rfl⟩
  · rintro m τ ⟨i, hm, ⟨hi0, hi1, hi2⟩, rfl⟩ K hL0
    have hw := fun h : i < (l.length : Int) => wrap_next hi0 h (by omega)
    have hd := fun h : i < (l.length : Int) => dropI_map (fun n => PC.c (Value.int .i64 n)) hi0 h
    refine vwp_seq_region rfl fun K hK => ?_
    simp (dsimp := false) only [push_cast, hP, hnt, hgw, hgb, Nat.reduceLT, Nat.reduceEqDiff, Nat.reduceAdd, Nat.reduceSub, Nat.reduceMul, Nat.reduceLeDiff, ↓reduceIte, reduceCtorEq, hi0]
    refine hK _ ?_; clear hK
    refine vwp_seq fun K hK => ?_
    refine vwp_cond (b := _) (by simp (dsimp := false) only [push_cast, hP, hnt, hgw, hgb, Nat.reduceLT, Nat.reduceEqDiff, Nat.reduceAdd, Nat.reduceSub, Nat.reduceMul, Nat.reduceLeDiff, ↓reduceIte, reduceCtorEq, hi0]; rfl) (fun rb0 => ?_) (fun rb0 => ?_)
    · have hb0 := rb0
      try simp only [beq_iff_eq, bne_iff_ne, ne_eq, bne_eq_false_iff_eq, beq_eq_false_iff_ne, decide_eq_true_eq, decide_eq_false_iff_not, Bool.not_eq_true', Bool.not_eq_false', Bool.or_eq_true, Bool.and_eq_true, Bool.or_eq_false_iff, Bool.and_eq_false_iff] at hb0
      have hw := hw hb0
      have hd := hd hb0
      refine vwp_skip ?_
      apply_assumption
      refine vwp_seq fun K hK => ?_
      refine vwp_block ?_
      refine vwp_seq_region rfl fun K hK => ?_
      simp (dsimp := false) only [push_cast, hP, hnt, hgw, hgb, Nat.reduceLT, Nat.reduceEqDiff, Nat.reduceAdd, Nat.reduceSub, Nat.reduceMul, Nat.reduceLeDiff, ↓reduceIte, reduceCtorEq, hi0, hw, hd, hb0]
      refine hK _ ?_; clear hK
      refine vwp_seq_regionG fun K hK => ?_
      simp (dsimp := false) only [push_cast, hP, hnt, hgw, hgb, Nat.reduceLT, Nat.reduceEqDiff, Nat.reduceAdd, Nat.reduceSub, Nat.reduceMul, Nat.reduceLeDiff, ↓reduceIte, reduceCtorEq, hi0, hw, hd, hb0]
      refine guardR_may (by simp (dsimp := false) only [push_cast, hP, hnt, hgw, hgb, Nat.reduceLT, Nat.reduceEqDiff, Nat.reduceAdd, Nat.reduceSub, Nat.reduceMul, Nat.reduceLeDiff, ↓reduceIte, reduceCtorEq, hi0, hw, hd, hb0, List.getElem?_cons_zero, List.getElem?_cons_succ]; rfl) ?_
      simp (dsimp := false) only [push_cast, hP, hnt, hgw, hgb, Nat.reduceLT, Nat.reduceEqDiff, Nat.reduceAdd, Nat.reduceSub, Nat.reduceMul, Nat.reduceLeDiff, ↓reduceIte, reduceCtorEq, hi0, hw, hd, hb0]
      refine guardR_may (by simp (dsimp := false) only [push_cast, hP, hnt, hgw, hgb, Nat.reduceLT, Nat.reduceEqDiff, Nat.reduceAdd, Nat.reduceSub, Nat.reduceMul, Nat.reduceLeDiff, ↓reduceIte, reduceCtorEq, hi0, hw, hd, hb0, List.getElem?_cons_zero, List.getElem?_cons_succ]; rfl) ?_
      simp (dsimp := false) only [push_cast, hP, hnt, hgw, hgb, Nat.reduceLT, Nat.reduceEqDiff, Nat.reduceAdd, Nat.reduceSub, Nat.reduceMul, Nat.reduceLeDiff, ↓reduceIte, reduceCtorEq, hi0, hw, hd, hb0]
      refine guardR_may (by simp (dsimp := false) only [push_cast, hP, hnt, hgw, hgb, Nat.reduceLT, Nat.reduceEqDiff, Nat.reduceAdd, Nat.reduceSub, Nat.reduceMul, Nat.reduceLeDiff, ↓reduceIte, reduceCtorEq, hi0, hw, hd, hb0, List.getElem?_cons_zero, List.getElem?_cons_succ]; rfl) ?_
      simp (dsimp := false) only [push_cast, hP, hnt, hgw, hgb, Nat.reduceLT, Nat.reduceEqDiff, Nat.reduceAdd, Nat.reduceSub, Nat.reduceMul, Nat.reduceLeDiff, ↓reduceIte, reduceCtorEq, hi0, hw, hd, hb0]
      refine hK _ ?_; clear hK
      refine vwp_cond (b := _) (by simp (dsimp := false) only [push_cast, hP, hnt, hgw, hgb, Nat.reduceLT, Nat.reduceEqDiff, Nat.reduceAdd, Nat.reduceSub, Nat.reduceMul, Nat.reduceLeDiff, ↓reduceIte, reduceCtorEq, hi0, hw, hd, hb0]; rfl) (fun rb1 => ?_) (fun rb1 => ?_)
      · have hb1 := rb1
        try simp only [beq_iff_eq, bne_iff_ne, ne_eq, bne_eq_false_iff_eq, beq_eq_false_iff_ne, decide_eq_true_eq, decide_eq_false_iff_not, Bool.not_eq_true', Bool.not_eq_false', Bool.or_eq_true, Bool.and_eq_true, Bool.or_eq_false_iff, Bool.and_eq_false_iff] at hb1
        refine vwp_seq_region rfl fun K hK => ?_
        simp (dsimp := false) only [push_cast, hP, hnt, hgw, hgb, Nat.reduceLT, Nat.reduceEqDiff, Nat.reduceAdd, Nat.reduceSub, Nat.reduceMul, Nat.reduceLeDiff, ↓reduceIte, reduceCtorEq, hi0, hw, hd, hb0]
        refine hK _ ?_; clear hK
        refine vwp_ret ?_
        refine ret_free (by simp (dsimp := false) only [push_cast, hP, hnt, hgw, hgb, Nat.reduceLT, Nat.reduceEqDiff, Nat.reduceAdd, Nat.reduceSub, Nat.reduceMul, Nat.reduceLeDiff, ↓reduceIte, reduceCtorEq, hi0, hw, hd, hb0]; rfl) (by simp (dsimp := false) only [push_cast, hP, hnt, hgw, hgb, Nat.reduceLT, Nat.reduceEqDiff, Nat.reduceAdd, Nat.reduceSub, Nat.reduceMul, Nat.reduceLeDiff, ↓reduceIte, reduceCtorEq, hi0, hw, hd, hb0]) ?_
        simp only [pack, all_stop hi0 hb0 hi2 (inTo_false (by omega))]
      · have hb1 := rb1
        try simp only [beq_iff_eq, bne_iff_ne, ne_eq, bne_eq_false_iff_eq, beq_eq_false_iff_ne, decide_eq_true_eq, decide_eq_false_iff_not, Bool.not_eq_true', Bool.not_eq_false', Bool.or_eq_true, Bool.and_eq_true, Bool.or_eq_false_iff, Bool.and_eq_false_iff] at hb1
        refine vwp_skip ?_
        apply_assumption
        refine vwp_region rfl ?_
        simp (dsimp := false) only [push_cast, hP, hnt, hgw, hgb, Nat.reduceLT, Nat.reduceEqDiff, Nat.reduceAdd, Nat.reduceSub, Nat.reduceMul, Nat.reduceLeDiff, ↓reduceIte, reduceCtorEq, hi0, hw, hd, hb0]
        refine hL0 _ _ _ ?_ ?_ ⟨i + 1, rfl, ?_, rfl⟩
        · omega
        · refine wk_conv [] [] (by simp) (by simp) (by decide) ?_ ?_
          · refine hf_cons (by simp (dsimp := false) only [push_cast, ↓reduceIte, Nat.reduceEqDiff, Nat.reduceAdd, reduceCtorEq, hi0, hw, hd, hb0] <;> rfl) (by exact ConvV.self rfl) ?_
            refine hf_cons (by simp (dsimp := false) only [push_cast, ↓reduceIte, Nat.reduceEqDiff, Nat.reduceAdd, reduceCtorEq, hi0, hw, hd, hb0] <;> rfl) (by repeat' (first | exact ConvVs.nil | exact ConvL.nil | refine ConvV.tup ?_ | refine ConvVs.cons ?_ ?_ | (refine ConvV.self ?_; simp only [push_cast]; done) | refine ConvV.one ?_ | refine ConvV.agg ?_ | (refine ConvL.free ?_; simp only [push_cast]; done) | refine ConvL.append ?_ ?_ | refine ConvL.cons ?_ ?_ | exact Conv.free rfl | exact Conv.nil | (refine Conv.own ?_; simp; done) | (refine Conv.loc ?_; simp; done) | refine Conv.frz (by simp) (by simp (dsimp := false) only [push_cast, ↓reduceIte, Nat.reduceEqDiff, Nat.reduceAdd, reduceCtorEq, hi0, hw, hd, hb0] <;> rfl) ?_ | refine Conv.sl (by simp) ?_ | refine Conv.fn ?_)) ?_
            refine hf_cons (by simp (dsimp := false) only [push_cast, ↓reduceIte, Nat.reduceEqDiff, Nat.reduceAdd, reduceCtorEq, hi0, hw, hd, hb0] <;> rfl) (by exact ConvV.self rfl) ?_
            refine hf_cons (by simp (dsimp := false) only [push_cast, ↓reduceIte, Nat.reduceEqDiff, Nat.reduceAdd, reduceCtorEq, hi0, hw, hd, hb0] <;> rfl) (by exact ConvV.self rfl) ?_
            exact hf_nil
          · exact hh_nil
        · exact ⟨by omega, by omega, all_next hi0 hb0 hi2 (inTo_true (by omega))⟩
    · have hb0 := rb0
      try simp only [beq_iff_eq, bne_iff_ne, ne_eq, bne_eq_false_iff_eq, beq_eq_false_iff_ne, decide_eq_true_eq, decide_eq_false_iff_not, Bool.not_eq_true', Bool.not_eq_false', Bool.or_eq_true, Bool.and_eq_true, Bool.or_eq_false_iff, Bool.and_eq_false_iff] at hb0
      refine vwp_exit ?_
      simp only [thenQ, blockQ, Nat.reduceEqDiff, reduceIte]
      apply_assumption
      refine vwp_seq_region rfl fun K hK => ?_
      simp (dsimp := false) only [push_cast, hP, hnt, hgw, hgb, Nat.reduceLT, Nat.reduceEqDiff, Nat.reduceAdd, Nat.reduceSub, Nat.reduceMul, Nat.reduceLeDiff, ↓reduceIte, reduceCtorEq, hi0]
      refine hK _ ?_; clear hK
      refine vwp_ret ?_
      refine ret_free (by simp (dsimp := false) only [push_cast, hP, hnt, hgw, hgb, Nat.reduceLT, Nat.reduceEqDiff, Nat.reduceAdd, Nat.reduceSub, Nat.reduceMul, Nat.reduceLeDiff, ↓reduceIte, reduceCtorEq, hi0]; rfl) (by simp (dsimp := false) only [push_cast, hP, hnt, hgw, hgb, Nat.reduceLT, Nat.reduceEqDiff, Nat.reduceAdd, Nat.reduceSub, Nat.reduceMul, Nat.reduceLeDiff, ↓reduceIte, reduceCtorEq, hi0]) ?_
      simp only [pack, all_end hb0 hi2]
end Go.Vm
end

section
namespace Go.Vm
open Go Go.RowKit Go.Proofs
set_option maxRecDepth 100000
set_option linter.unusedSimpArgs false
set_option linter.unusedVariables false
set_option maxHeartbeats 4000000

def bitc (b : Bool) : UInt8 := if b then 49 else 48
def bitsB (l : List Bool) : ByteArray := bOf (l.map bitc)
def bitsS (l : List Bool) : ByteArray := if l = [] then bOf [45] else bitsB l
def bitP (b : Bool) : PC := .c (.int .u8 (bitc b).toNat)
theorem bitP_true : PC.c (Value.int .u8 49) = bitP true := rfl
theorem bitP_false : PC.c (Value.int .u8 48) = bitP false := rfl
theorem bytesOf_map {α : Type} (f : α → UInt8) (l : List α) : bytesOf (l.map fun a => .c (.int .u8 (f a).toNat)) = some (l.map fun a => ((f a).toNat : Int)) := by
  induction l with
  | nil => rfl
  | cons a l ih => simp only [List.map_cons, bytesOf, ih]
theorem ofBytes_acc : ∀ (l : List UInt8) (b : ByteArray), (l.map fun a => (a.toNat : Int)).foldl (fun r n => r.push (UInt8.ofNat n.toNat)) b = b ++ bOf l
  | [], b => by apply ByteArray.ext; simp [bOf]
  | x :: l, b => by
    simp only [List.map_cons, List.foldl_cons, ofBytes_acc l]
    apply ByteArray.ext
    simp [bOf, ByteArray.data_append]
theorem ofBytes_eq (l : List UInt8) : ofBytes (l.map fun a => (a.toNat : Int)) = bOf l := by
  unfold ofBytes
  rw [ofBytes_acc]
  apply ByteArray.ext
  simp
theorem ofBytes_bits (l : List Bool) : ofBytes (l.map fun a => ((bitc a).toNat : Int)) = bitsB l := by
  have := ofBytes_eq (l.map bitc)
  rwa [List.map_map] at this
theorem bits_call (gw : World) (gb : Nat) (l : List Bool) (hl : l.length ≤ 100000) : VCall Tryd.prog gw (gb) 44 [.one (.sl false l.length (l.map fun b => .c (.bool b)))] (.one (.c (.string (bitsS l)))) [] := by
  have hz : rowZ [PC.c (Value.int .u8 0)] l.length = rowAt bitP (.c (.int .u8 0)) l (Int.toNat 0) := rowAt_zero
  have hm1 : (0 + 1) * (l.length : Int) ≤ 140737488355328 := by omega
  have hm2 : (l.length : Int) ≤ 140737488355328 := by omega
  have hm3 : (0 : Int) ≤ (l.length : Int) := by omega
  have hrf : ∀ k, PC.frees (rowAt bitP (.c (.int .u8 0)) l k) = true := fun k => rowAt_frees rfl fun _ => rfl
  refine vcall_of [.tmp 2] Tryd.func44 rfl rfl Tryd.ntmps44 rfl (by simp) ?_
  intro C hP hnt hgw hgb hfull
  refine vwp_seq_region rfl fun K hK => ?_
  simp (dsimp := false) only [push_cast, hP, hnt, hgw, hgb, Nat.reduceLT, Nat.reduceEqDiff, Nat.reduceAdd, Nat.reduceSub, Nat.reduceMul, Nat.reduceLeDiff, ↓reduceIte, reduceCtorEq, Int.toNat_natCast, hm1, hm2, hm3]
  refine hK _ ?_; clear hK
  refine vwp_seq fun K hK => ?_
  refine vwp_seq_region rfl fun K hK => ?_
  simp (dsimp := false) only [push_cast, hP, hnt, hgw, hgb, Nat.reduceLT, Nat.reduceEqDiff, Nat.reduceAdd, Nat.reduceSub, Nat.reduceMul, Nat.reduceLeDiff, ↓reduceIte, reduceCtorEq, Int.toNat_natCast, hm1, hm2, hm3]
  refine hK _ ?_; clear hK
  refine vwp_cond (b := _) (by simp (dsimp := false) only [push_cast, hP, hnt, hgw, hgb, Nat.reduceLT, Nat.reduceEqDiff, Nat.reduceAdd, Nat.reduceSub, Nat.reduceMul, Nat.reduceLeDiff, ↓reduceIte, reduceCtorEq, Int.toNat_natCast, hm1, hm2, hm3]; rfl) (fun rb0 => ?_) (fun rb0 => ?_)
  · have hb0 := rb0
    try simp only [beq_iff_eq, bne_iff_ne, ne_eq, bne_eq_false_iff_eq, beq_eq_false_iff_ne, decide_eq_true_eq, decide_eq_false_iff_not, Bool.not_eq_true', Bool.not_eq_false', Bool.or_eq_true, Bool.and_eq_true, Bool.or_eq_false_iff, Bool.and_eq_false_iff] at hb0
    refine vwp_seq_region rfl fun K hK => ?_
    simp (dsimp := false) only [push_cast, hP, hnt, hgw, hgb, Nat.reduceLT, Nat.reduceEqDiff, Nat.reduceAdd, Nat.reduceSub, Nat.reduceMul, Nat.reduceLeDiff, ↓reduceIte, reduceCtorEq, Int.toNat_natCast, hm1, hm2, hm3]
    refine hK _ ?_; clear hK
    refine vwp_ret ?_
    refine ret_free (by simp (dsimp := false) only [push_cast, hP, hnt, hgw, hgb, Nat.reduceLT, Nat.reduceEqDiff, Nat.reduceAdd, Nat.reduceSub, Nat.reduceMul, Nat.reduceLeDiff, ↓reduceIte, reduceCtorEq, Int.toNat_natCast, hm1, hm2, hm3]; rfl) (by simp (dsimp := false) only [push_cast, hP, hnt, hgw, hgb, Nat.reduceLT, Nat.reduceEqDiff, Nat.reduceAdd, Nat.reduceSub, Nat.reduceMul, Nat.reduceLeDiff, ↓reduceIte, reduceCtorEq, Int.toNat_natCast, hm1, hm2, hm3]) ?_
    rw [show bitsS l = bOf [45] from if_pos (List.length_eq_zero_iff.1 (by omega))]; rfl
  · have hb0 := rb0
    try simp only [beq_iff_eq, bne_iff_ne, ne_eq, bne_eq_false_iff_eq, beq_eq_false_iff_ne, decide_eq_true_eq, decide_eq_false_iff_not, Bool.not_eq_true', Bool.not_eq_false', Bool.or_eq_true, Bool.and_eq_true, Bool.or_eq_false_iff, Bool.and_eq_false_iff] at hb0
    refine vwp_skip ?_
    apply_assumption
    refine vwp_seq_region rfl fun K hK => ?_
    simp (dsimp := false) only [push_cast, hP, hnt, hgw, hgb, Nat.reduceLT, Nat.reduceEqDiff, Nat.reduceAdd, Nat.reduceSub, Nat.reduceMul, Nat.reduceLeDiff, ↓reduceIte, reduceCtorEq, Int.toNat_natCast, hm1, hm2, hm3]
    refine hK _ ?_; clear hK
    refine vwp_seq fun K hK => ?_
    refine vwp_seq_region rfl fun K hK => ?_
    simp (dsimp := false) only [push_cast, hP, hnt, hgw, hgb, Nat.reduceLT, Nat.reduceEqDiff, Nat.reduceAdd, Nat.reduceSub, Nat.reduceMul, Nat.reduceLeDiff, ↓reduceIte, reduceCtorEq, Int.toNat_natCast, hm1, hm2, hm3]
    refine hK _ ?_; clear hK
    refine vwp_block ?_
    refine vwp_loop (fun m σ => ∃ (i : Int), m = (l.length - i).toNat ∧ ((0 ≤ i) ∧ (i ≤ l.length)) ∧ σ = St.of [(3, .one (.own (12, 0))), (12, .one (.sl false l.length (l.map fun b => .c (.bool b)))), (13, .one (.c (.int .i64 l.length))), (14, .one (.c (.int .i64 i)))] [((12, 0), .arr 5 1 l.length (rowAt bitP (.c (.int .u8 0)) l i.toNat))] [11]) _ ⟨_, ?_, 0, rfl, ?_, rfl⟩ ?_
    · refine wk_conv [] [((12, 0), (12, 0))] (by simp) (by simp) (by decide) ?_ ?_
      · refine hf_cons (by simp (dsimp := false) only [push_cast, ↓reduceIte, Nat.reduceEqDiff, Nat.reduceAdd, reduceCtorEq, Int.toNat_natCast, hm1, hm2, hm3, hz] <;> rfl) (by exact .one (.own (by simp))) ?_
        refine hf_cons (by simp (dsimp := false) only [push_cast, ↓reduceIte, Nat.reduceEqDiff, Nat.reduceAdd, reduceCtorEq, Int.toNat_natCast, hm1, hm2, hm3, hz] <;> rfl) (by repeat' (first | exact ConvVs.nil | exact ConvL.nil | refine ConvV.tup ?_ | refine ConvVs.cons ?_ ?_ | (refine ConvV.self ?_; simp only [push_cast, hrf]; done) | refine ConvV.one ?_ | refine ConvV.agg ?_ | (refine ConvL.free ?_; simp only [push_cast, hrf]; done) | refine ConvL.append ?_ ?_ | refine ConvL.cons ?_ ?_ | exact Conv.free rfl | exact Conv.nil | (refine Conv.own ?_; simp; done) | (refine Conv.loc ?_; simp; done) | refine Conv.frz (by simp) (by simp (dsimp := false) only [push_cast, ↓reduceIte, Nat.reduceEqDiff, Nat.reduceAdd, reduceCtorEq, Int.toNat_natCast, hm1, hm2, hm3, hz] <;> rfl) ?_ | refine Conv.sl (by simp) ?_ | refine Conv.fn ?_)) ?_
        refine hf_cons (by simp (dsimp := false) only [push_cast, ↓reduceIte, Nat.reduceEqDiff, Nat.reduceAdd, reduceCtorEq, Int.toNat_natCast, hm1, hm2, hm3, hz] <;> rfl) (by exact ConvV.self rfl) ?_
        refine hf_cons (by simp (dsimp := false) only [push_cast, ↓reduceIte, Nat.reduceEqDiff, Nat.reduceAdd, reduceCtorEq, Int.toNat_natCast, hm1, hm2, hm3, hz] <;> rfl) (by exact ConvV.self rfl) ?_
        exact hf_nil
      · refine hh_cons (i := (12, 0)) (by simp) (by simp) (by simp (dsimp := false) only [push_cast, ↓reduceIte, Nat.reduceEqDiff, Nat.reduceAdd, reduceCtorEq, Int.toNat_natCast, hm1, hm2, hm3, hz] <;> rfl) (by first | (refine ConvB.free ?_; simp only [push_cast, hrf]; done) | (refine ConvB.arr ?_; repeat' (first | exact ConvVs.nil | exact ConvL.nil | refine ConvV.tup ?_ | refine ConvVs.cons ?_ ?_ | (refine ConvV.self ?_; simp only [push_cast, hrf]; done) | refine ConvV.one ?_ | refine ConvV.agg ?_ | (refine ConvL.free ?_; simp only [push_cast, hrf]; done) | refine ConvL.append ?_ ?_ | refine ConvL.cons ?_ ?_ | exact Conv.free rfl | exact Conv.nil | (refine Conv.own ?_; simp; done) | (refine Conv.loc ?_; simp; done) | refine Conv.frz (by simp) (by simp (dsimp := false) only [push_cast, ↓reduceIte, Nat.reduceEqDiff, Nat.reduceAdd, reduceCtorEq, Int.toNat_natCast, hm1, hm2, hm3, hz] <;> rfl) ?_ | refine Conv.sl (by simp) ?_ | refine Conv.fn ?_))) ?_
        exact hh_nil
    · exact ⟨by omega, by omega⟩
    · rintro m τ ⟨i, hm, ⟨hi0, hi1⟩, rfl⟩ K hL0
      have hw := fun h : i < (l.length : Int) => wrap_next hi0 h (by omega)
      have hd := fun h : i < (l.length : Int) => dropI_map (fun b => PC.c (Value.bool b)) hi0 h
      refine vwp_seq_region rfl fun K hK => ?_
      simp (dsimp := false) only [push_cast, hP, hnt, hgw, hgb, Nat.reduceLT, Nat.reduceEqDiff, Nat.reduceAdd, Nat.reduceSub, Nat.reduceMul, Nat.reduceLeDiff, ↓reduceIte, reduceCtorEq, Int.toNat_natCast, hm1, hm2, hm3, hi0]
      refine hK _ ?_; clear hK
      refine vwp_seq fun K hK => ?_
      refine vwp_cond (b := _) (by simp (dsimp := false) only [push_cast, hP, hnt, hgw, hgb, Nat.reduceLT, Nat.reduceEqDiff, Nat.reduceAdd, Nat.reduceSub, Nat.reduceMul, Nat.reduceLeDiff, ↓reduceIte, reduceCtorEq, Int.toNat_natCast, hm1, hm2, hm3, hi0]; rfl) (fun rb1 => ?_) (fun rb1 => ?_)
      · have hb1 := rb1
        try simp only [beq_iff_eq, bne_iff_ne, ne_eq, bne_eq_false_iff_eq, beq_eq_false_iff_ne, decide_eq_true_eq, decide_eq_false_iff_not, Bool.not_eq_true', Bool.not_eq_false', Bool.or_eq_true, Bool.and_eq_true, Bool.or_eq_false_iff, Bool.and_eq_false_iff] at hb1
        have hw := hw hb1
        have hd := hd hb1
        have hk : i.toNat < l.length := by omega
        have hf1 : i.toNat * 1 + 1 ≤ (rowAt bitP (PC.c (Value.int .u8 0)) l i.toNat).length := by rw [rowAt_len (by omega)]; omega
        have hs1 : splice (rowAt bitP (PC.c (Value.int .u8 0)) l i.toNat) (i.toNat * 1) [PC.c (Value.int .u8 48)] = rowPut bitP (PC.c (Value.int .u8 0)) l i.toNat (bitP false) := by rw [Nat.mul_one]; exact rowAt_put hk
        have hf2 : i.toNat * 1 + 1 ≤ (rowPut bitP (PC.c (Value.int .u8 0)) l i.toNat (bitP false)).length := by rw [rowPut_len hk]; omega
        have hs2 : splice (rowPut bitP (PC.c (Value.int .u8 0)) l i.toNat (bitP false)) (i.toNat * 1) [PC.c (Value.int .u8 49)] = rowPut bitP (PC.c (Value.int .u8 0)) l i.toNat (bitP true) := by rw [Nat.mul_one]; exact rowPut_put hk
        refine vwp_skip ?_
        apply_assumption
        refine vwp_seq fun K hK => ?_
        refine vwp_block ?_
        refine vwp_seq_region rfl fun K hK => ?_
        simp (dsimp := false) only [push_cast, hP, hnt, hgw, hgb, Nat.reduceLT, Nat.reduceEqDiff, Nat.reduceAdd, Nat.reduceSub, Nat.reduceMul, Nat.reduceLeDiff, ↓reduceIte, reduceCtorEq, Int.toNat_natCast, hm1, hm2, hm3, hi0, hw, hd, hb1, hf1, hs1, hf2, hs2]
        refine hK _ ?_; clear hK
        refine vwp_seq_region rfl fun K hK => ?_
        simp (dsimp := false) only [push_cast, hP, hnt, hgw, hgb, Nat.reduceLT, Nat.reduceEqDiff, Nat.reduceAdd, Nat.reduceSub, Nat.reduceMul, Nat.reduceLeDiff, ↓reduceIte, reduceCtorEq, Int.toNat_natCast, hm1, hm2, hm3, hi0, hw, hd, hb1, hf1, hs1, hf2, hs2]
        refine hK _ ?_; clear hK
        refine vwp_seq_region rfl fun K hK => ?_
        simp (dsimp := false) only [push_cast, hP, hnt, hgw, hgb, Nat.reduceLT, Nat.reduceEqDiff, Nat.reduceAdd, Nat.reduceSub, Nat.reduceMul, Nat.reduceLeDiff, ↓reduceIte, reduceCtorEq, Int.toNat_natCast, hm1, hm2, hm3, hi0, hw, hd, hb1, hf1, hs1, hf2, hs2]
        refine hK _ ?_; clear hK
        refine vwp_cond (b := _) (by simp (dsimp := false) only [push_cast, hP, hnt, hgw, hgb, Nat.reduceLT, Nat.reduceEqDiff, Nat.reduceAdd, Nat.reduceSub, Nat.reduceMul, Nat.reduceLeDiff, ↓reduceIte, reduceCtorEq, Int.toNat_natCast, hm1, hm2, hm3, hi0, hw, hd, hb1, hf1, hs1, hf2, hs2]; rfl) (fun rb2 => ?_) (fun rb2 => ?_)
        · have hb2 := rb2
          try simp only [beq_iff_eq, bne_iff_ne, ne_eq, bne_eq_false_iff_eq, beq_eq_false_iff_ne, decide_eq_true_eq, decide_eq_false_iff_not, Bool.not_eq_true', Bool.not_eq_false', Bool.or_eq_true, Bool.and_eq_true, Bool.or_eq_false_iff, Bool.and_eq_false_iff] at hb2
          refine vwp_region rfl ?_
          simp (dsimp := false) only [push_cast, hP, hnt, hgw, hgb, Nat.reduceLT, Nat.reduceEqDiff, Nat.reduceAdd, Nat.reduceSub, Nat.reduceMul, Nat.reduceLeDiff, ↓reduceIte, reduceCtorEq, Int.toNat_natCast, hm1, hm2, hm3, hi0, hw, hd, hb1, hf1, hs1, hf2, hs2]
          apply_assumption
          refine vwp_region rfl ?_
          simp (dsimp := false) only [push_cast, hP, hnt, hgw, hgb, Nat.reduceLT, Nat.reduceEqDiff, Nat.reduceAdd, Nat.reduceSub, Nat.reduceMul, Nat.reduceLeDiff, ↓reduceIte, reduceCtorEq, Int.toNat_natCast, hm1, hm2, hm3, hi0, hw, hd, hb1, hf1, hs1, hf2, hs2]
          have hn : rowPut bitP (PC.c (Value.int .u8 0)) l i.toNat (bitP true) = rowAt bitP (PC.c (Value.int .u8 0)) l (i + 1).toNat := by rw [← rowAt_next hi0 hb1, hb2]
          refine hL0 _ _ _ ?_ ?_ ⟨i + 1, rfl, ?_, rfl⟩
          · omega
          · refine wk_conv [] [((12, 0), (12, 0))] (by simp) (by simp) (by decide) ?_ ?_
            · refine hf_cons (by simp (dsimp := false) only [push_cast, ↓reduceIte, Nat.reduceEqDiff, Nat.reduceAdd, reduceCtorEq, Int.toNat_natCast, hm1, hm2, hm3, hi0, hw, hd, hb1, hf1, hs1, hf2, hs2, hn] <;> rfl) (by exact .one (.own (by simp))) ?_
              refine hf_cons (by simp (dsimp := false) only [push_cast, ↓reduceIte, Nat.reduceEqDiff, Nat.reduceAdd, reduceCtorEq, Int.toNat_natCast, hm1, hm2, hm3, hi0, hw, hd, hb1, hf1, hs1, hf2, hs2, hn] <;> rfl) (by repeat' (first | exact ConvVs.nil | exact ConvL.nil | refine ConvV.tup ?_ | refine ConvVs.cons ?_ ?_ | (refine ConvV.self ?_; simp only [push_cast, hrf]; done) | refine ConvV.one ?_ | refine ConvV.agg ?_ | (refine ConvL.free ?_; simp only [push_cast, hrf]; done) | refine ConvL.append ?_ ?_ | refine ConvL.cons ?_ ?_ | exact Conv.free rfl | exact Conv.nil | (refine Conv.own ?_; simp; done) | (refine Conv.loc ?_; simp; done) | refine Conv.frz (by simp) (by simp (dsimp := false) only [push_cast, ↓reduceIte, Nat.reduceEqDiff, Nat.reduceAdd, reduceCtorEq, Int.toNat_natCast, hm1, hm2, hm3, hi0, hw, hd, hb1, hf1, hs1, hf2, hs2, hn] <;> rfl) ?_ | refine Conv.sl (by simp) ?_ | refine Conv.fn ?_)) ?_
              refine hf_cons (by simp (dsimp := false) only [push_cast, ↓reduceIte, Nat.reduceEqDiff, Nat.reduceAdd, reduceCtorEq, Int.toNat_natCast, hm1, hm2, hm3, hi0, hw, hd, hb1, hf1, hs1, hf2, hs2, hn] <;> rfl) (by exact ConvV.self rfl) ?_
              refine hf_cons (by simp (dsimp := false) only [push_cast, ↓reduceIte, Nat.reduceEqDiff, Nat.reduceAdd, reduceCtorEq, Int.toNat_natCast, hm1, hm2, hm3, hi0, hw, hd, hb1, hf1, hs1, hf2, hs2, hn] <;> rfl) (by exact ConvV.self rfl) ?_
              exact hf_nil
            · refine hh_cons (i := (12, 0)) (by simp) (by simp) (by simp (dsimp := false) only [push_cast, ↓reduceIte, Nat.reduceEqDiff, Nat.reduceAdd, reduceCtorEq, Int.toNat_natCast, hm1, hm2, hm3, hi0, hw, hd, hb1, hf1, hs1, hf2, hs2, hn] <;> rfl) (by first | (refine ConvB.free ?_; simp only [push_cast, hrf]; done) | (refine ConvB.arr ?_; repeat' (first | exact ConvVs.nil | exact ConvL.nil | refine ConvV.tup ?_ | refine ConvVs.cons ?_ ?_ | (refine ConvV.self ?_; simp only [push_cast, hrf]; done) | refine ConvV.one ?_ | refine ConvV.agg ?_ | (refine ConvL.free ?_; simp only [push_cast, hrf]; done) | refine ConvL.append ?_ ?_ | refine ConvL.cons ?_ ?_ | exact Conv.free rfl | exact Conv.nil | (refine Conv.own ?_; simp; done) | (refine Conv.loc ?_; simp; done) | refine Conv.frz (by simp) (by simp (dsimp := false) only [push_cast, ↓reduceIte, Nat.reduceEqDiff, Nat.reduceAdd, reduceCtorEq, Int.toNat_natCast, hm1, hm2, hm3, hi0, hw, hd, hb1, hf1, hs1, hf2, hs2, hn] <;> rfl) ?_ | refine Conv.sl (by simp) ?_ | refine Conv.fn ?_))) ?_
              exact hh_nil
          · exact ⟨by omega, by omega⟩
        · have hb2 := rb2
          try simp only [beq_iff_eq, bne_iff_ne, ne_eq, bne_eq_false_iff_eq, beq_eq_false_iff_ne, decide_eq_true_eq, decide_eq_false_iff_not, Bool.not_eq_true', Bool.not_eq_false', Bool.or_eq_true, Bool.and_eq_true, Bool.or_eq_false_iff, Bool.and_eq_false_iff] at hb2
          refine vwp_skip ?_
          apply_assumption
          refine vwp_region rfl ?_
          simp (dsimp := false) only [push_cast, hP, hnt, hgw, hgb, Nat.reduceLT, Nat.reduceEqDiff, Nat.reduceAdd, Nat.reduceSub, Nat.reduceMul, Nat.reduceLeDiff, ↓reduceIte, reduceCtorEq, Int.toNat_natCast, hm1, hm2, hm3, hi0, hw, hd, hb1, hf1, hs1, hf2, hs2]
          have hn : rowPut bitP (PC.c (Value.int .u8 0)) l i.toNat (bitP false) = rowAt bitP (PC.c (Value.int .u8 0)) l (i + 1).toNat := by rw [← rowAt_next hi0 hb1, hb2]
          refine hL0 _ _ _ ?_ ?_ ⟨i + 1, rfl, ?_, rfl⟩
          · omega
          · refine wk_conv [] [((12, 0), (12, 0))] (by simp) (by simp) (by decide) ?_ ?_
            · refine hf_cons (by simp (dsimp := false) only [push_cast, ↓reduceIte, Nat.reduceEqDiff, Nat.reduceAdd, reduceCtorEq, Int.toNat_natCast, hm1, hm2, hm3, hi0, hw, hd, hb1, hf1, hs1, hf2, hs2, hn] <;> rfl) (by exact .one (.own (by simp))) ?_
              refine hf_cons (by simp (dsimp := false) only [push_cast, ↓reduceIte, Nat.reduceEqDiff, Nat.reduceAdd, reduceCtorEq, Int.toNat_natCast, hm1, hm2, hm3, hi0, hw, hd, hb1, hf1, hs1, hf2, hs2, hn] <;> rfl) (by repeat' (first | exact ConvVs.nil | exact ConvL.nil | refine ConvV.tup ?_ | refine ConvVs.cons ?_ ?_ | (refine ConvV.self ?_; simp only [push_cast, hrf]; done) | refine ConvV.one ?_ | refine ConvV.agg ?_ | (refine ConvL.free ?_; simp only [push_cast, hrf]; done) | refine ConvL.append ?_ ?_ | refine ConvL.cons ?_ ?_ | exact Conv.free rfl | exact Conv.nil | (refine Conv.own ?_; simp; done) | (refine Conv.loc ?_; simp; done) | refine Conv.frz (by simp) (by simp (dsimp := false) only [push_cast, ↓reduceIte, Nat.reduceEqDiff, Nat.reduceAdd, reduceCtorEq, Int.toNat_natCast, hm1, hm2, hm3, hi0, hw, hd, hb1, hf1, hs1, hf2, hs2, hn] <;> rfl) ?_ | refine Conv.sl (by simp) ?_ | refine Conv.fn ?_)) ?_
              refine hf_cons (by simp (dsimp := false) only [push_cast, ↓reduceIte, Nat.reduceEqDiff, Nat.reduceAdd, reduceCtorEq, Int.toNat_natCast, hm1, hm2, hm3, hi0, hw, hd, hb1, hf1, hs1, hf2, hs2, hn] <;> rfl) (by exact ConvV.self rfl) ?_
              refine hf_cons (by simp (dsimp := false) only [push_cast, ↓reduceIte, Nat.reduceEqDiff, Nat.reduceAdd, reduceCtorEq, Int.toNat_natCast, hm1, hm2, hm3, hi0, hw, hd, hb1, hf1, hs1, hf2, hs2, hn] <;> rfl) (by exact ConvV.self rfl) ?_
              exact hf_nil
            · refine hh_cons (i := (12, 0)) (by simp) (by simp) (by simp (dsimp := false) only [push_cast, ↓reduceIte, Nat.reduceEqDiff, Nat.reduceAdd, reduceCtorEq, Int.toNat_natCast, hm1, hm2, hm3, hi0, hw, hd, hb1, hf1, hs1, hf2, hs2, hn] <;> rfl) (by first | (refine ConvB.free ?_; simp only [push_cast, hrf]; done) | (refine ConvB.arr ?_; repeat' (first | exact ConvVs.nil | exact ConvL.nil | refine ConvV.tup ?_ | refine ConvVs.cons ?_ ?_ | (refine ConvV.self ?_; simp only [push_cast, hrf]; done) | refine ConvV.one ?_ | refine ConvV.agg ?_ | (refine ConvL.free ?_; simp only [push_cast, hrf]; done) | refine ConvL.append ?_ ?_ | refine ConvL.cons ?_ ?_ | exact Conv.free rfl | exact Conv.nil | (refine Conv.own ?_; simp; done) | (refine Conv.loc ?_; simp; done) | refine Conv.frz (by simp) (by simp (dsimp := false) only [push_cast, ↓reduceIte, Nat.reduceEqDiff, Nat.reduceAdd, reduceCtorEq, Int.toNat_natCast, hm1, hm2, hm3, hi0, hw, hd, hb1, hf1, hs1, hf2, hs2, hn] <;> rfl) ?_ | refine Conv.sl (by simp) ?_ | refine Conv.fn ?_))) ?_
              exact hh_nil
          · exact ⟨by omega, by omega⟩
      · have hb1 := rb1
        try simp only [beq_iff_eq, bne_iff_ne, ne_eq, bne_eq_false_iff_eq, beq_eq_false_iff_ne, decide_eq_true_eq, decide_eq_false_iff_not, Bool.not_eq_true', Bool.not_eq_false', Bool.or_eq_true, Bool.and_eq_true, Bool.or_eq_false_iff, Bool.and_eq_false_iff] at hb1
        have hend : rowAt bitP (PC.c (Value.int .u8 0)) l i.toNat = l.map bitP := by rw [show i.toNat = l.length by omega]; exact rowAt_end
        have hbb : bytesOf (l.map bitP) = some (l.map fun a => ((bitc a).toNat : Int)) := bytesOf_map bitc l
        have hob := ofBytes_bits l
        refine vwp_exit ?_
        simp only [thenQ, blockQ, Nat.reduceEqDiff, reduceIte]
        apply_assumption
        refine vwp_seq_region rfl fun K hK => ?_
        simp (dsimp := false) only [push_cast, hP, hnt, hgw, hgb, Nat.reduceLT, Nat.reduceEqDiff, Nat.reduceAdd, Nat.reduceSub, Nat.reduceMul, Nat.reduceLeDiff, ↓reduceIte, reduceCtorEq, Int.toNat_natCast, hm1, hm2, hm3, hi0, hend, hbb, hob]
        refine hK _ ?_; clear hK
        refine vwp_ret ?_
        refine ret_free (by simp (dsimp := false) only [push_cast, hP, hnt, hgw, hgb, Nat.reduceLT, Nat.reduceEqDiff, Nat.reduceAdd, Nat.reduceSub, Nat.reduceMul, Nat.reduceLeDiff, ↓reduceIte, reduceCtorEq, Int.toNat_natCast, hm1, hm2, hm3, hi0, hend, hbb, hob]; rfl) (by simp (dsimp := false) only [push_cast, hP, hnt, hgw, hgb, Nat.reduceLT, Nat.reduceEqDiff, Nat.reduceAdd, Nat.reduceSub, Nat.reduceMul, Nat.reduceLeDiff, ↓reduceIte, reduceCtorEq, Int.toNat_natCast, hm1, hm2, hm3, hi0, hend, hbb, hob]) ?_
        rw [show bitsS l = bitsB l from if_neg (fun h => hb0 (by simp [h]))]; rfl
end Go.Vm
end
