/-
  Walks of the program's functions by the framework, and what they compute (PtAU). Conditions: each theorem's own premises. By an AI agent.
-/
import Derived.Test.YtnpbndglolcilaaGreatDoorPtAS
import Derived.Test.YtnpbndglolcilaaGreatDoorCards
import Derived.Test.YtnpbndglolcilaaGreatDoorTie
import Derived.WalkKit
import Derived.ProofKit
import Derived.OpenShut
import Derived.Deep.DeepHandedRow
import Derived.Deep.SlicePairs
import Derived.Deep.Strs
import Derived.Lib.LaidTab
import Derived.Lib.SmallJoins
import Derived.Carry
import Derived.Stop.LaidErr
import Derived.MakeChecks
import Derived.ChangeSame
namespace Go.Proofs.YtnpbndglolcilaaGreatDoor.rowsW
open Go.ChangeShapes Go.WideShapes Go.ChangeAt Go.RowKit Go.Vm Go.Shelf
open Go.ChangeMaps (open_string shut_string)
open Go.Joins
open Go.MakeChecks (laidMetH_plain)
open Go.Deep (oneCellFields open_slice1 open_slice_pairs choose_lt)
open Go.WideElems (Trod_stays)
set_option maxRecDepth 100000

section
variable {W : World} {φ : Vm.Id → Option Value} {F : Bool → Nat → Prop}
end

section
variable {H : Type} {enc : TypeId × Value → H} {W : World} {sp : Nat → Bool} {held : Bool} {n : Nat} {v : Value} {x : DataW H × List MemPlace}
end
section
variable {H : Type} {enc : TypeId × Value → H} {P : Program}
theorem post_of_below {f : Func} {s : ChangeSpec} {apart fresh handsOn again : Bool} {W W' : World} {args : Array Value} {v : Value} {ds gs : List (DataW H)} {before pa pv : List MemPlace}
    (hW : DataW.Whole enc P f.params.toList s.vars apart W args.toList ds gs before)
    (hres : ∀ (b : Nat) (sp : Nat → Bool) (hd : Bool), DataW.TrodAll enc P W' b sp hd f.resultTypes.toList (v.resultList f.resultTypes.size) (s.fn H (ds ++ gs)).results [])
    (hargs : ∀ sp : Nat → Bool, (∀ p ∈ before, sp p.block = true) → DataW.TrodAll enc P W' 0 sp true f.params.toList args.toList (s.fn H (ds ++ gs)).args pa)
    (hvars : ∀ sp : Nat → Bool, (∀ p ∈ before, sp p.block = true) → DataW.TrodVars enc P W' sp s.vars (s.fn H (ds ++ gs)).vars pv)
    (hps : before = pa ++ pv) (hb : Below W.heap.size W W')
    (hok : ∀ (j : Nat) (t : TypeId) (r : Value), f.resultTypes[j]? = some t → (v.resultList f.resultTypes.size)[j]? = some r → Value.okWide P W' .any 0 t r) :
    s.post enc P f apart fresh handsOn again W args v W' := by
  have hlt : ∀ p ∈ before, p.block < W.heap.size := fun p hp => hW.lt p hp
  have hold : ∀ p ∈ before, (fun b => decide (b < W.heap.size)) p.block = true := fun p hp => by simpa using hlt p hp
  refine ⟨ds, gs, before, [], pa, pv, hW, hres _ _ _, hargs _ hold, hvars _ hold, World.keptBut_mono (fun p hp => ⟨hp, ?_⟩) (hb.frame (· ∈ before)), fun _ => ?_⟩
  · rw [hps, List.mem_append] at hp
    exact Or.inr hp
  · obtain ⟨_, _, _, _, _, hz, hn⟩ := hW
    refine ⟨hok, _, _, ([] ++ pa) ++ pv, ⟨[] ++ pa, pv, trodAll_append (hargs _ (fun _ _ => rfl)) (hres _ _ _), hvars _ (fun _ _ => rfl), rfl, ?_, ?_⟩, ?_⟩
    · intro b off hp
      have hin : MemPlace.cell b off ∈ before := by rw [hps]; simpa using hp
      rw [hb.frozen (hlt _ hin)]
      exact hz b off hin
    · intro ha
      have := hn ha
      rw [hps] at this
      simpa using this
    · intro p hp _
      rw [hps]
      simpa using hp
end

theorem own : ownKnob Tryz.prog.godebug = none := by kernel_rfl
theorem gPow : Tryz.prog.globalNamed "internal/strconv.uint64pow10" = some 1 := by kernel_rfl
theorem gPowType : (Tryz.prog.globals[1]?).map (·.type) = some 137 := by kernel_rfl
theorem gES : Tryz.prog.globalNamed "strconv.ErrSyntax" = some 2 := by kernel_rfl
theorem gESType : (Tryz.prog.globals[2]?).map (·.type) = some 69 := by kernel_rfl
theorem gER : Tryz.prog.globalNamed "strconv.ErrRange" = some 3 := by kernel_rfl
theorem gERType : (Tryz.prog.globals[3]?).map (·.type) = some 69 := by kernel_rfl
theorem cells165 : Tryz.prog.cellsOf 137 = 20 := by kernel_rfl
theorem cells149 : Tryz.prog.cellsOf 121 = 1 := by kernel_rfl
theorem cells175 : Tryz.prog.cellsOf 158 = 1 := by kernel_rfl
theorem cells9 : Tryz.prog.cellsOf 9 = 1 := by kernel_rfl
theorem star : "*" ++ "errors.errorString" = "*errors.errorString" := by decide
theorem row173 (u : TypeId) (h : Tryz.prog.typeName? 3 u = some "*errors.errorString") : u = 156 :=
  typeName_ptr_named (nm := "errors.errorString") (by rw [star]; kernel_rfl) (by kernel_rfl) (by decide) u (by rw [star]; exact h)

theorem glob {W : World} (hL : laidMetH Tryz.prog Rows.linesBackRow.laid W) (hS : W.ShapedOpen Tryz.prog) : Glob W := by
  have hL' : laidMet Tryz.prog Rows.linesBackRow.laid W := by
    rw [← laidMetH_plain Tryz.prog Rows.linesBackRow.laid W (by rfl)]; exact hL
  have h2 := hL'.tail.tail
  have h4 := h2.tail.tail
  have h5 := h4.tail
  refine ⟨Lib.tabIs_of_head gPow gPowType Tryz.underlying137 Tryz.underlying121 cells149 cells165 h2, Tryz.laysM145.s1_3 W hS, ?_, ?_⟩
  · obtain ⟨a, s, hv, _⟩ := laid_sentinel h5 gES gESType Tryz.underlying69 row173 Tryz.underlying156 Tryz.underlying158 rfl rfl Tryz.underlying9 cells175 cells9
    exact ⟨_, _, hv⟩
  · obtain ⟨a, s, hv, _⟩ := laid_sentinel h4 gER gERType Tryz.underlying69 row173 Tryz.underlying156 Tryz.underlying158 rfl rfl Tryz.underlying9 cells175 cells9
    exact ⟨_, _, hv⟩

/-- A WORLD FOR THE WITNESS: the settled one, with the tables and the two sentinels as their initialisers lay them. -/
noncomputable def low : Nat := (World.holding Tryz.prog default ⟨#[], #[], []⟩).heap.size
abbrev synS : ByteArray := { data := #[105, 110, 118, 97, 108, 105, 100, 32, 115, 121, 110, 116, 97, 120] }
abbrev rngS : ByteArray := { data := #[118, 97, 108, 117, 101, 32, 111, 117, 116, 32, 111, 102, 32, 114, 97, 110, 103, 101] }
def tabCells (k : IntKind) : List (DataW Unit) → List Value
  | .lit (.int _ n) :: l => .int k n :: tabCells k l
  | .agg [.lit (.int _ m), .lit (.int _ n)] :: l => .int k m :: .int k n :: tabCells k l
  | _ => []
def cellsOfTab (k : IntKind) : DataW Unit → Array Value
  | .agg l => (tabCells k l).toArray
  | _ => #[]
noncomputable def laidWorld (os : Os) : World :=
  let w0 := World.holding Tryz.prog os ⟨#[.cells #[.string synS] 158, .cells #[.string rngS] 158], #[], []⟩
  { w0 with heap := ((((((w0.heap.modify 2 fun
      | .cells _ t frozen => .cells #[.iface 156 (.pointer (some ⟨low, 0, none⟩))] t frozen
      | o => o).modify 3 fun
      | .cells _ t frozen => .cells #[.iface 156 (.pointer (some ⟨low + 1, 0, none⟩))] t frozen
      | o => o).modify 1 fun
      | .cells _ t frozen => .cells (cellsOfTab .u64 Rows.laid_internal_strconv_uint64pow10) t frozen
      | o => o).modify 6 fun
      | .cells _ t frozen => .cells (cellsOfTab .u8 Rows.laid_math_bits_deBruijn32tab) t frozen
      | o => o).modify 7 fun
      | .cells _ t frozen => .cells (cellsOfTab .u8 Rows.laid_math_bits_deBruijn64tab) t frozen
      | o => o).modify 4 fun
      | .cells _ t frozen => .cells (cellsOfTab .u8 Rows.laid_unicode_utf8_first) t frozen
      | o => o).modify 5 fun
      | .cells _ t frozen => .cells (cellsOfTab .u8 Rows.laid_unicode_utf8_acceptRanges) t frozen
      | o => o }
end Go.Proofs.YtnpbndglolcilaaGreatDoor.rowsW
