/-
  Walks of the program's functions by the framework, and what they compute. Conditions: each theorem's own premises. By an AI agent.
-/
import Derived.Test.YtnpbndglolcilaaDoorVmY
import Derived.Test.YtnpbndglolcilaaDoorPtShelf
namespace Go.Vm
open Go Go.RowKit Go.Proofs
set_option maxRecDepth 100000
set_option linter.unusedSimpArgs false
set_option linter.unusedVariables false
set_option maxHeartbeats 4000000
theorem ty_u3 : Tryd.prog.underlying 3 = some (.int .i64) := by kernel_rfl
theorem ty_s3 : szT Tryd.prog 3 = some 1 := by kernel_rfl
theorem ty_b3 : bytesT Tryd.prog 3 = some 8 := by kernel_rfl
theorem ty_z3 : zeroCellsT Tryd.prog 3 = some [.c (.int .i64 0)] := by kernel_rfl
theorem ty_u4 : Tryd.prog.underlying 4 = some (.bool) := by kernel_rfl
theorem ty_s4 : szT Tryd.prog 4 = some 1 := by kernel_rfl
theorem ty_b4 : bytesT Tryd.prog 4 = some 1 := by kernel_rfl
theorem ty_z4 : zeroCellsT Tryd.prog 4 = some [.c (.bool false)] := by kernel_rfl
theorem ty_u5 : Tryd.prog.underlying 5 = some (.int .u8) := by kernel_rfl
theorem ty_s5 : szT Tryd.prog 5 = some 1 := by kernel_rfl
theorem ty_b5 : bytesT Tryd.prog 5 = some 1 := by kernel_rfl
theorem ty_z5 : zeroCellsT Tryd.prog 5 = some [.c (.int .u8 0)] := by kernel_rfl
theorem ty_u9 : Tryd.prog.underlying 9 = some (.string) := by kernel_rfl
theorem ty_s9 : szT Tryd.prog 9 = some 1 := by kernel_rfl
theorem ty_b9 : bytesT Tryd.prog 9 = some 16 := by kernel_rfl
theorem ty_z9 : zeroCellsT Tryd.prog 9 = some [.c (.string ⟨#[]⟩)] := by kernel_rfl
theorem ty_u23 : Tryd.prog.underlying 23 = some (.struct #[⟨ "Name", 9, 0, false, "", "", 0⟩, ⟨ "Number", 3, 1, false, "", "", 16⟩]) := by kernel_rfl
theorem ty_s23 : szT Tryd.prog 23 = some 2 := by kernel_rfl
theorem ty_b23 : bytesT Tryd.prog 23 = some 24 := by kernel_rfl
theorem ty_z23 : zeroCellsT Tryd.prog 23 = some [.c (.string ⟨#[]⟩), .c (.int .i64 0)] := by kernel_rfl
theorem ty_e23 : eqOkT Tryd.prog 23 = true := by kernel_rfl
theorem ty_u24 : Tryd.prog.underlying 24 = some (.int .i64) := by kernel_rfl
theorem ty_s24 : szT Tryd.prog 24 = some 1 := by kernel_rfl
theorem ty_b24 : bytesT Tryd.prog 24 = some 8 := by kernel_rfl
theorem ty_z24 : zeroCellsT Tryd.prog 24 = some [.c (.int .i64 0)] := by kernel_rfl
theorem ty_u74 : Tryd.prog.underlying 74 = some (.slice 9) := by kernel_rfl
theorem ty_s74 : szT Tryd.prog 74 = some 1 := by kernel_rfl
theorem ty_b74 : bytesT Tryd.prog 74 = some 24 := by kernel_rfl
theorem ty_z74 : zeroCellsT Tryd.prog 74 = some [.c (.slice none 0 0)] := by kernel_rfl
theorem ty_u90 : Tryd.prog.underlying 90 = some (.slice 5) := by kernel_rfl
theorem ty_s90 : szT Tryd.prog 90 = some 1 := by kernel_rfl
theorem ty_b90 : bytesT Tryd.prog 90 = some 24 := by kernel_rfl
theorem ty_z90 : zeroCellsT Tryd.prog 90 = some [.c (.slice none 0 0)] := by kernel_rfl
theorem mixed : Tryd.prog.follows .mixedOrders = true := by kernel_rfl
attribute [push_cast] ty_u3 ty_s3 ty_b3 ty_z3 ty_u4 ty_s4 ty_b4 ty_z4 ty_u5 ty_s5 ty_b5 ty_z5 ty_u9 ty_s9 ty_b9 ty_z9 ty_u23 ty_s23 ty_b23 ty_z23 ty_e23 ty_u24 ty_s24 ty_b24 ty_z24 ty_u74 ty_s74 ty_b74 ty_z74 ty_u90 ty_s90 ty_b90 ty_z90
def names8 : List ByteArray := [⟨#[104, 97, 115, 104]⟩, ⟨#[99, 111, 110, 115, 116, 97, 110, 116, 115]⟩, ⟨#[99, 111, 110, 101]⟩, ⟨#[115, 119, 101, 101, 112]⟩, ⟨#[116, 101, 114, 110, 97, 114, 121]⟩, ⟨#[108, 97, 116, 99, 104, 101, 115]⟩, ⟨#[112, 114, 101, 102, 105, 120]⟩, ⟨#[112, 104, 97, 115, 101, 115]⟩]
theorem callable_of {f : FuncId} {fn : Func} (h : Tryd.prog.funcs[f]? = some fn) (h1 : (fn.name == "runtime.NumGoroutine") = false) (h2 : fn.body.isNone = false) : Callable Tryd.prog f := ⟨fn, h, h1, h2⟩

theorem itoa_call (gw : World) (gb : Nat) (i : Nat) (hi : i < 100) : VCall Tryd.prog gw gb 31 [.one (.c (.int .i64 i))] (.one (.c (.string ⟨(Lib.decDigits i).toArray⟩))) [] :=
  vcall_plain (callable_of Tryd.func31 rfl rfl) [.int .i64 i] _ fun w _ => (Tryd.strconv_Itoa_small i hi w).mono fun e w' ⟨he, hw⟩ => ⟨_, he, hw ▸ Below.refl _ _, fun F => by simp only [repV, rep]; exact ⟨trivial, rfl⟩⟩

theorem contains_call (gw : World) (gb : Nat) (ss : List ByteArray) (x : ByteArray) (hs : ss.length ≤ 9223372036854775807) :
    VCall Tryd.prog gw gb 38 [.one (.sl false (ss.map Value.string).length ((ss.map Value.string).map .c)), .one (.c (.string x))] (.one (.c (.bool (Lib.containsS ss x)))) [] := by
  refine vcall_row (callable_of Tryd.func38 rfl rfl) (ss.map Value.string) [.string x] _ (fun w b off cap _ hb hcap hcell => ?_) (fun h0 w A cap _ => ?_)
  · have := Tryd.slices_Contains_string b off ss.length cap ss x w (Nat.le_refl _) hs (fun j hj => hcell j _ (by simp [List.getElem?_eq_getElem hj, List.getD]))
    rw [List.take_length] at this
    simp only [List.length_map]
    exact this.mono fun e w' ⟨he, hw⟩ => ⟨_, he, hw ▸ Below.refl _ _, fun F => by simp only [repV, rep]; exact ⟨trivial, rfl⟩⟩
  · have h0 : ss = [] := by simpa using h0
    subst h0
    exact (Tryd.slices_Contains_string_empty A cap x w).mono fun e w' ⟨he, hw⟩ => ⟨_, he, hw ▸ Below.refl _ _, fun F => by simp only [repV, rep]; exact ⟨by first | trivial | rfl | simp [Lib.containsS], rfl⟩⟩
end Go.Vm
