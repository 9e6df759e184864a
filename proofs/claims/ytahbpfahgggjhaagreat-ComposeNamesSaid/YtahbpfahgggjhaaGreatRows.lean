/-
  No cell of these rows narrows 'for every input' (looked for: loops, veiled, ifaces, maps, wideKeys, modest, calm, conditions, laid).
  DERIVED. THE GIVEN ROWS OF THIS SEAT. 3 by the template 'for every input the law returns true; each argument reads behind the call as it read before'; 0 by the template 'total and deterministic' (their statements: YtahbpfahgggjhaaGreatTotals.lean).
  GIVEN WITH THE SEED: the statements are not yours to turn. If you find one false, say at which input.
  Laid BY PROGRAM, IN A SANDBOX (cutbox-rows.mjs): the forced cells as the released guide's own fill.sh prints them over the translation eaa12deb8ba0b513… (all of the seat's roots in one cut). By AI agents, Wed Nov 11 2026. No macro, syntax, notation, axiom, sorry.
-/
import Derived.Test.YtahbpfahgggjhaaGreatChecked
import GoSem.Claim
import GoSem.ClaimJoined
import GoSem.ClaimMapViews
import Derived.JoinedTies
import Derived.KernelRfl
namespace Go.Proofs.YtahbpfahgggjhaaGreat
/- THE CELL 'sum', in the pinned program and in every row, IS THE sha256 OF THE DUMP (.gsa) THAT YtahbpfahgggjhaaGreatProg.lean LOADS. Nothing in Lean hashes anything: it is a label: what it is worth is what the hold of that sum in a sandbox is worth. -/
noncomputable def Tryz.pinned : Pinned := { name := "ytahbpfahgggjhaagreat", sum := "eaa12deb8ba0b5137653afefa57144551b6214d3dc69ad943aeb62ab621efce4", checked := Tryz.checked }
namespace Rows
def none {H : Type} : Left H := { results := [], args := [] }

/-- 'spiritlevellaw35.ComposeParts': WHATEVER THE INPUT: true; the input reads as it did. -/
def composePartsSpec : ChangeSpec := { name := "composeParts", fn := fun _ => fun
  | [d1, d2, d3, d4] => { results := [.lit (.bool true)], args := [d1, d2, d3, d4] }
  | _ => none }
def composePartsRow : OpenClaim := { program := "ytahbpfahgggjhaagreat", sum := "eaa12deb8ba0b5137653afefa57144551b6214d3dc69ad943aeb62ab621efce4", func := "spiritlevel/spiritlevellaw35.ComposeParts", spec := "composeParts", unfollowed := true, recurses := true, plainKeys := false, apart := false }
def ComposePartsSaid : Prop := composePartsRow.holds Tryz.pinned (OpenSpec.ofChange composePartsSpec)

/-- ITS FALSE NEIGHBOUR: 'it returns false'. Refute it at one input. -/
def composePartsWrong : ChangeSpec := { name := "composeParts", fn := fun _ => fun
  | [d1, d2, d3, d4] => { results := [.lit (.bool false)], args := [d1, d2, d3, d4] }
  | _ => none }
def ComposePartsWrongFalsely : Prop := composePartsRow.holds Tryz.pinned (OpenSpec.ofChange composePartsWrong)

/-- 'spiritlevellaw35.ComposeNames': WHATEVER THE INPUT: true; the input reads as it did. -/
def composeNamesSpec : ChangeSpec := { name := "composeNames", fn := fun _ => fun
  | [] => { results := [.lit (.bool true)], args := [] }
  | _ => none }
def composeNamesRow : OpenClaim := { program := "ytahbpfahgggjhaagreat", sum := "eaa12deb8ba0b5137653afefa57144551b6214d3dc69ad943aeb62ab621efce4", func := "spiritlevel/spiritlevellaw35.ComposeNames", spec := "composeNames", unfollowed := true, recurses := true, plainKeys := false, apart := false }
def ComposeNamesSaid : Prop := composeNamesRow.holds Tryz.pinned (OpenSpec.ofChange composeNamesSpec)

/-- ITS FALSE NEIGHBOUR: 'it returns false'. Refute it at one input. -/
def composeNamesWrong : ChangeSpec := { name := "composeNames", fn := fun _ => fun
  | [] => { results := [.lit (.bool false)], args := [] }
  | _ => none }
def ComposeNamesWrongFalsely : Prop := composeNamesRow.holds Tryz.pinned (OpenSpec.ofChange composeNamesWrong)

/-- 'spiritlevellaw35.ComposeOne': WHATEVER THE INPUT: true; the input reads as it did. -/
def composeOneSpec : ChangeSpec := { name := "composeOne", fn := fun _ => fun
  | [d1, d2, d3, d4] => { results := [.lit (.bool true)], args := [d1, d2, d3, d4] }
  | _ => none }
def composeOneRow : OpenClaim := { program := "ytahbpfahgggjhaagreat", sum := "eaa12deb8ba0b5137653afefa57144551b6214d3dc69ad943aeb62ab621efce4", func := "spiritlevel/spiritlevellaw35.ComposeOne", spec := "composeOne", unfollowed := true, recurses := true, plainKeys := false, apart := false }
def ComposeOneSaid : Prop := composeOneRow.holds Tryz.pinned (OpenSpec.ofChange composeOneSpec)

/-- ITS FALSE NEIGHBOUR: 'it returns false'. Refute it at one input. -/
def composeOneWrong : ChangeSpec := { name := "composeOne", fn := fun _ => fun
  | [d1, d2, d3, d4] => { results := [.lit (.bool false)], args := [d1, d2, d3, d4] }
  | _ => none }
def ComposeOneWrongFalsely : Prop := composeOneRow.holds Tryz.pinned (OpenSpec.ofChange composeOneWrong)

/- THE SECOND FORM. 'bulk': how many values and letters a reading holds, each counted each time it is reached (what is shared counts as often as it is met; a slice's spare places count too). A statement '..UptoSaid' is the law's where the arguments, and the package variables that the reading takes, are together of bulk at most 1048576: NARROWER than '..Said'. Prove '..Said' where nothing that the law and all that it calls make is longer than what came in: it says more and counts as full. Else prove '..UptoSaid'. A law counts once. -/
mutual
def uptoBulk {H : Type} : DataW H → Nat
  | .lit (.string bytes) => bytes.length + 1
  | .lit _ => 1
  | .nil => 1
  | .ptr d => uptoBulk d + 1
  | .slice elems spare => uptoBulkAll elems + uptoBulkAll spare + 1
  | .agg parts => uptoBulkAll parts + 1
  | .iface _ d => uptoBulk d + 1
  | .map entries => uptoBulkEntries entries + 1
  | .held _ => 1
def uptoBulkAll {H : Type} : List (DataW H) → Nat
  | [] => 0
  | d :: r => uptoBulk d + uptoBulkAll r
def uptoBulkEntries {H : Type} : List (Lit × DataW H) → Nat
  | [] => 0
  | x :: r => uptoBulkEntry x + uptoBulkEntries r
def uptoBulkEntry {H : Type} : Lit × DataW H → Nat
  | (.string bytes, d) => bytes.length + uptoBulk d + 1
  | (_, d) => uptoBulk d + 1
 end
def uptoSmall : (H : Type) → List (DataW H) → Bool := fun _ ds => decide (uptoBulkAll ds ≤ 1048576)
def OpenSpec.upto (s : _root_.Go.ChangeSpec) : _root_.Go.OpenSpec := { _root_.Go.OpenSpec.ofChange s with cond := some uptoSmall }

/-- 'spiritlevellaw35.ComposeParts', WHERE WHAT IT READS IS OF BULK AT MOST 1048576: true; the input reads as it did. -/
def composePartsUptoRow : OpenClaim := { program := "ytahbpfahgggjhaagreat", sum := "eaa12deb8ba0b5137653afefa57144551b6214d3dc69ad943aeb62ab621efce4", func := "spiritlevel/spiritlevellaw35.ComposeParts", spec := "composeParts", unfollowed := true, recurses := true, plainKeys := false, apart := false, narrowed := true }
def ComposePartsUptoSaid : Prop := composePartsUptoRow.holds Tryz.pinned (OpenSpec.upto composePartsSpec)

/-- 'spiritlevellaw35.ComposeNames', WHERE WHAT IT READS IS OF BULK AT MOST 1048576: true; the input reads as it did. -/
def composeNamesUptoRow : OpenClaim := { program := "ytahbpfahgggjhaagreat", sum := "eaa12deb8ba0b5137653afefa57144551b6214d3dc69ad943aeb62ab621efce4", func := "spiritlevel/spiritlevellaw35.ComposeNames", spec := "composeNames", unfollowed := true, recurses := true, plainKeys := false, apart := false, narrowed := true }
def ComposeNamesUptoSaid : Prop := composeNamesUptoRow.holds Tryz.pinned (OpenSpec.upto composeNamesSpec)

/-- 'spiritlevellaw35.ComposeOne', WHERE WHAT IT READS IS OF BULK AT MOST 1048576: true; the input reads as it did. -/
def composeOneUptoRow : OpenClaim := { program := "ytahbpfahgggjhaagreat", sum := "eaa12deb8ba0b5137653afefa57144551b6214d3dc69ad943aeb62ab621efce4", func := "spiritlevel/spiritlevellaw35.ComposeOne", spec := "composeOne", unfollowed := true, recurses := true, plainKeys := false, apart := false, narrowed := true }
def ComposeOneUptoSaid : Prop := composeOneUptoRow.holds Tryz.pinned (OpenSpec.upto composeOneSpec)

end Rows
end Go.Proofs.YtahbpfahgggjhaaGreat
