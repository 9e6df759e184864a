/-
  Walks of the program's functions by the framework, and what they compute (PtAK). Conditions: each theorem's own premises. By an AI agent.
-/
import Derived.Test.YtnpbndglolcilaaGreatDoorPtAJ
import Derived.Lib.ItoaLen
section
namespace Go.Vm
open Go Go.RowKit Go.Proofs
set_option maxRecDepth 100000
set_option linter.unusedSimpArgs false
set_option linter.unusedVariables false
set_option maxHeartbeats 4000000

def spB : ByteArray := ⟨#[32]⟩
def lineL (ws : List ByteArray) : List UInt8 := (joinS spB ws ++ ⟨#[10]⟩).data.toList
theorem lineL_size (ws : List ByteArray) : (lineL ws).length = (joinS spB ws).size + 1 := by
  unfold lineL; rw [← size_list, ByteArray.size_append]; rfl
theorem joinS_one (sep a : ByteArray) : joinS sep [a] = a := by
  unfold joinS; rw [List.map_cons, List.map_nil, Lib.join_one]
theorem joinS_two (sep a b : ByteArray) : joinS sep [a, b] = bOf (a.data.toList ++ (sep.data.toList ++ b.data.toList)) := by
  unfold joinS bOf; simp [Lib.join, List.intercalate]
theorem joinS_three (sep a b c : ByteArray) : joinS sep [a, b, c] = bOf (a.data.toList ++ (sep.data.toList ++ (b.data.toList ++ (sep.data.toList ++ c.data.toList)))) := by
  unfold joinS bOf; simp [Lib.join, List.intercalate]
theorem joinS_two_size (sep a b : ByteArray) : (joinS sep [a, b]).size = a.size + sep.size + b.size := by
  rw [joinS_two, bOf_size, List.length_append, List.length_append, ← size_list, ← size_list, ← size_list]; omega
theorem joinS_three_size (sep a b c : ByteArray) : (joinS sep [a, b, c]).size = a.size + sep.size + b.size + sep.size + c.size := by
  rw [joinS_three, bOf_size]; simp only [List.length_append, ← size_list]; omega

theorem blen_call (gw : World) (gb : Nat) (l : List UInt8) : VCallIO Tryz.prog gw (gb) 30 [.one (.loc (0, 0) 0)] [.box 66 [.loc (0, 0) 0, .own (0, 1)], rowU l] (.one (.c (.int .i64 l.length))) [some (.box 66 [.loc (0, 0) 0, .own (0, 1)]), some (rowU l)] := by
  refine vcallIO_of [.tmp 2] Tryz.func30 rfl rfl Tryz.ntmps30 rfl (by simp) (by simp) ?_
  intro C hP hnt hgw hgb
  refine vwp_seq_region rfl fun K hK => ?_
  simp (dsimp := false) only [push_cast, hP, hnt, hgw, hgb, sevalprocAttr, rowU, u8c_free, u8c_tag0, u8c_ioc, u8c_iob, u8c_strict]
  refine hK _ ?_; clear hK
  refine vwp_seq_region rfl fun K hK => ?_
  simp (dsimp := false) only [push_cast, hP, hnt, hgw, hgb, sevalprocAttr, rowU, u8c_free, u8c_tag0, u8c_ioc, u8c_iob, u8c_strict]
  refine hK _ ?_; clear hK
  refine vwp_ret ?_
  refine ret_io [] [((0, 0), (0, 0)), ((0, 1), (0, 1))] (by simp (dsimp := false) only [push_cast, hP, hnt, hgw, hgb, sevalprocAttr, rowU, u8c_free, u8c_tag0, u8c_ioc, u8c_iob, u8c_strict]; rfl) (by simp) (by simp) (by first | decide | simp) ?_ ?_
  · simp only [pack]
    repeat' (first | exact ConvVs.nil | exact ConvL.nil | refine ConvV.tup ?_ | refine ConvVs.cons ?_ ?_ | (refine ConvV.self ?_; simp only [push_cast]; done) | refine ConvV.one ?_ | refine ConvV.agg ?_ | (refine ConvL.free ?_; simp only [push_cast]; done) | refine ConvL.append ?_ ?_ | refine ConvL.cons ?_ ?_ | exact Conv.free rfl | exact Conv.nil | (refine Conv.own ?_; simp; done) | (refine Conv.loc ?_; simp; done) | refine Conv.frz (by simp) (by simp (dsimp := false) only [push_cast, ↓reduceIte, Nat.reduceEqDiff, Nat.reduceAdd, reduceCtorEq, rowU, u8c_free, u8c_tag0, u8c_ioc, u8c_iob, u8c_strict] <;> rfl) ?_ | refine Conv.sl (by simp) ?_ | refine Conv.fn ?_)
  · refine rio_cons ⟨(0, 0), _, by simp, by simp, by simp (dsimp := false) only [push_cast, ↓reduceIte, Nat.reduceEqDiff, Nat.reduceAdd, reduceCtorEq, rowU, u8c_free, u8c_tag0, u8c_ioc, u8c_iob, u8c_strict] <;> rfl, by first | (refine ConvB.free ?_; simp only [push_cast]; done) | ((first | refine ConvB.arr ?_ | refine ConvB.box ?_); repeat' (first | exact ConvVs.nil | exact ConvL.nil | refine ConvV.tup ?_ | refine ConvVs.cons ?_ ?_ | (refine ConvV.self ?_; simp only [push_cast]; done) | refine ConvV.one ?_ | refine ConvV.agg ?_ | (refine ConvL.free ?_; simp only [push_cast]; done) | refine ConvL.append ?_ ?_ | refine ConvL.cons ?_ ?_ | exact Conv.free rfl | exact Conv.nil | (refine Conv.own ?_; simp; done) | (refine Conv.loc ?_; simp; done) | refine Conv.frz (by simp) (by simp (dsimp := false) only [push_cast, ↓reduceIte, Nat.reduceEqDiff, Nat.reduceAdd, reduceCtorEq, rowU, u8c_free, u8c_tag0, u8c_ioc, u8c_iob, u8c_strict] <;> rfl) ?_ | refine Conv.sl (by simp) ?_ | refine Conv.fn ?_))⟩ ?_
    refine rio_cons ⟨(0, 1), _, by simp, by simp, by simp (dsimp := false) only [push_cast, ↓reduceIte, Nat.reduceEqDiff, Nat.reduceAdd, reduceCtorEq, rowU, u8c_free, u8c_tag0, u8c_ioc, u8c_iob, u8c_strict] <;> rfl, by exact ConvB.arr (ConvL.free (u8c_free _))⟩ ?_
    exact rio_nil
theorem line_call0 (gw : World) (gb : Nat) (l : List UInt8) (ws : List ByteArray) (hw : ws.length ≤ 100000) (hj : (joinS spB ws).size ≤ 1000000) (hl : l.length ≤ 100000000) : VCallIO Tryz.prog gw (gb) 25 [.one (.sl false ws.length (ws.map fun s => .c (.string s))), .one (.loc (0, 0) 0)] [.box 66 [.c (.pointer none), .own (0, 1)], rowU l] (.tup []) [some (.box 66 [.loc (0, 0) 0, .own (0, 2)]), none, some (rowU (l ++ lineL ws))] := by
  have h1 : (⟨#[10]⟩ : ByteArray).size = 1 := rfl
  have hs1 : (joinS spB ws).size + (⟨#[10]⟩ : ByteArray).size ≤ 9223372036854775807 := by omega
  have hs2 : l.length + (joinS spB ws ++ (⟨#[10]⟩ : ByteArray)).size ≤ 140737488355328 := by rw [ByteArray.size_append]; omega
  refine vcallIO_of [] Tryz.func25 rfl rfl Tryz.ntmps25 rfl (by simp) (by simp) ?_
  intro C hP hnt hgw hgb
  refine vwp_region rfl ?_
  simp (dsimp := false) only [push_cast, hP, hnt, hgw, hgb, sevalprocAttr, rowU, u8c_free, u8c_tag0, u8c_ioc, u8c_iob, u8c_strict, hs1, hs2, strCells_map]
  refine .inl (callE_intro (join_call gw gb ws spB hw (by omega)) (.inl ⟨rfl, rfl⟩) ?_)
  simp (dsimp := false) only [push_cast, hP, hnt, hgw, hgb, sevalprocAttr, rowU, u8c_free, u8c_tag0, u8c_ioc, u8c_iob, u8c_strict, hs1, hs2, strCells_map]
  first | refine ioE_intro [(0, 0), (0, 1)] (writeString_call0 gw gb l _ hs2) (by first | (simp (dsimp := false) only [push_cast, hP, hnt, hgw, hgb, sevalprocAttr, rowU, u8c_free, u8c_tag0, u8c_ioc, u8c_iob, u8c_strict, hs1, hs2, strCells_map]; rfl) | (simp (dsimp := false) only [push_cast, hP, hnt, hgw, hgb, sevalprocAttr, rowU, u8c_free, u8c_tag0, u8c_ioc, u8c_iob, u8c_strict, hs1, hs2, strCells_map]; done)) (by first | rfl | (simp (dsimp := false) only [push_cast, hP, hnt, hgw, hgb, sevalprocAttr, rowU, u8c_free, u8c_tag0, u8c_ioc, u8c_iob, u8c_strict, hs1, hs2, strCells_map]; done) | (simp (dsimp := false) only [push_cast, hP, hnt, hgw, hgb, sevalprocAttr, rowU, u8c_free, u8c_tag0, u8c_ioc, u8c_iob, u8c_strict, hs1, hs2, strCells_map]; rfl)) (by first | rfl | (simp (dsimp := false) only [push_cast, hP, hnt, hgw, hgb, sevalprocAttr, rowU, u8c_free, u8c_tag0, u8c_ioc, u8c_iob, u8c_strict, hs1, hs2, strCells_map]; done) | (simp (dsimp := false) only [push_cast, hP, hnt, hgw, hgb, sevalprocAttr, rowU, u8c_free, u8c_tag0, u8c_ioc, u8c_iob, u8c_strict, hs1, hs2, strCells_map]; rfl)) (by first | rfl | (simp (dsimp := false) only [push_cast, hP, hnt, hgw, hgb, sevalprocAttr, rowU, u8c_free, u8c_tag0, u8c_ioc, u8c_iob, u8c_strict, hs1, hs2, strCells_map]; done)) (.inl ⟨rfl, by simp (dsimp := false) only [push_cast, hP, hnt, hgw, hgb, sevalprocAttr, rowU, u8c_free, u8c_tag0, u8c_ioc, u8c_iob, u8c_strict, hs1, hs2, strCells_map]⟩) ?_ | refine .inr (ioE_intro [(0, 0), (0, 1)] (writeString_call0 gw gb l _ hs2) (by first | (simp (dsimp := false) only [push_cast, hP, hnt, hgw, hgb, sevalprocAttr, rowU, u8c_free, u8c_tag0, u8c_ioc, u8c_iob, u8c_strict, hs1, hs2, strCells_map]; rfl) | (simp (dsimp := false) only [push_cast, hP, hnt, hgw, hgb, sevalprocAttr, rowU, u8c_free, u8c_tag0, u8c_ioc, u8c_iob, u8c_strict, hs1, hs2, strCells_map]; done)) (by first | rfl | (simp (dsimp := false) only [push_cast, hP, hnt, hgw, hgb, sevalprocAttr, rowU, u8c_free, u8c_tag0, u8c_ioc, u8c_iob, u8c_strict, hs1, hs2, strCells_map]; done) | (simp (dsimp := false) only [push_cast, hP, hnt, hgw, hgb, sevalprocAttr, rowU, u8c_free, u8c_tag0, u8c_ioc, u8c_iob, u8c_strict, hs1, hs2, strCells_map]; rfl)) (by first | rfl | (simp (dsimp := false) only [push_cast, hP, hnt, hgw, hgb, sevalprocAttr, rowU, u8c_free, u8c_tag0, u8c_ioc, u8c_iob, u8c_strict, hs1, hs2, strCells_map]; done) | (simp (dsimp := false) only [push_cast, hP, hnt, hgw, hgb, sevalprocAttr, rowU, u8c_free, u8c_tag0, u8c_ioc, u8c_iob, u8c_strict, hs1, hs2, strCells_map]; rfl)) (by first | rfl | (simp (dsimp := false) only [push_cast, hP, hnt, hgw, hgb, sevalprocAttr, rowU, u8c_free, u8c_tag0, u8c_ioc, u8c_iob, u8c_strict, hs1, hs2, strCells_map]; done)) (.inl ⟨rfl, by simp (dsimp := false) only [push_cast, hP, hnt, hgw, hgb, sevalprocAttr, rowU, u8c_free, u8c_tag0, u8c_ioc, u8c_iob, u8c_strict, hs1, hs2, strCells_map]⟩) ?_)
  simp (dsimp := false) only [push_cast, hP, hnt, hgw, hgb, sevalprocAttr, rowU, u8c_free, u8c_tag0, u8c_ioc, u8c_iob, u8c_strict, hs1, hs2, strCells_map]
  refine ret_io [] [((0, 0), (0, 0)), ((7, 0), (0, 2))] (by simp (dsimp := false) only [push_cast, hP, hnt, hgw, hgb, sevalprocAttr, rowU, u8c_free, u8c_tag0, u8c_ioc, u8c_iob, u8c_strict, hs1, hs2, strCells_map]; rfl) (by simp) (by simp) (by first | decide | simp) ?_ ?_
  · simp only [pack]
    repeat' (first | exact ConvVs.nil | exact ConvL.nil | refine ConvV.tup ?_ | refine ConvVs.cons ?_ ?_ | (refine ConvV.self ?_; simp only [push_cast, u8c_free]; done) | refine ConvV.one ?_ | refine ConvV.agg ?_ | (refine ConvL.free ?_; simp only [push_cast, u8c_free]; done) | refine ConvL.append ?_ ?_ | refine ConvL.cons ?_ ?_ | exact Conv.free rfl | exact Conv.nil | (refine Conv.own ?_; simp; done) | (refine Conv.loc ?_; simp; done) | refine Conv.frz (by simp) (by simp (dsimp := false) only [push_cast, ↓reduceIte, Nat.reduceEqDiff, Nat.reduceAdd, reduceCtorEq, rowU, u8c_free, u8c_tag0, u8c_ioc, u8c_iob, u8c_strict, hs1, hs2, strCells_map] <;> rfl) ?_ | refine Conv.sl (by simp) ?_ | refine Conv.fn ?_)
  · refine rio_cons ⟨(0, 0), _, by simp, by simp, by simp (dsimp := false) only [push_cast, ↓reduceIte, Nat.reduceEqDiff, Nat.reduceAdd, reduceCtorEq, rowU, u8c_free, u8c_tag0, u8c_ioc, u8c_iob, u8c_strict, hs1, hs2, strCells_map] <;> rfl, by first | (refine ConvB.free ?_; simp only [push_cast]; done) | ((first | refine ConvB.arr ?_ | refine ConvB.box ?_); repeat' (first | exact ConvVs.nil | exact ConvL.nil | refine ConvV.tup ?_ | refine ConvVs.cons ?_ ?_ | (refine ConvV.self ?_; simp only [push_cast, u8c_free]; done) | refine ConvV.one ?_ | refine ConvV.agg ?_ | (refine ConvL.free ?_; simp only [push_cast, u8c_free]; done) | refine ConvL.append ?_ ?_ | refine ConvL.cons ?_ ?_ | exact Conv.free rfl | exact Conv.nil | (refine Conv.own ?_; simp; done) | (refine Conv.loc ?_; simp; done) | refine Conv.frz (by simp) (by simp (dsimp := false) only [push_cast, ↓reduceIte, Nat.reduceEqDiff, Nat.reduceAdd, reduceCtorEq, rowU, u8c_free, u8c_tag0, u8c_ioc, u8c_iob, u8c_strict, hs1, hs2, strCells_map] <;> rfl) ?_ | refine Conv.sl (by simp) ?_ | refine Conv.fn ?_))⟩ ?_
    refine rio_none ?_
    refine rio_cons ⟨(7, 0), _, by simp, by simp, by simp (dsimp := false) only [push_cast, ↓reduceIte, Nat.reduceEqDiff, Nat.reduceAdd, reduceCtorEq, rowU, u8c_free, u8c_tag0, u8c_ioc, u8c_iob, u8c_strict, hs1, hs2, strCells_map] <;> rfl, by (try rw [rowU, List.map_append]); exact ConvB.arr (ConvL.free (by rw [frees_append, u8c_free, u8c_free]; rfl))⟩ ?_
    exact rio_nil
theorem line_call1 (gw : World) (gb : Nat) (l : List UInt8) (ws : List ByteArray) (hw : ws.length ≤ 100000) (hj : (joinS spB ws).size ≤ 1000000) (hl : l.length ≤ 100000000) : VCallIO Tryz.prog gw (gb) 25 [.one (.sl false ws.length (ws.map fun s => .c (.string s))), .one (.loc (0, 0) 0)] [.box 66 [.loc (0, 0) 0, .own (0, 1)], rowU l] (.tup []) [some (.box 66 [.loc (0, 0) 0, .own (0, 2)]), none, some (rowU (l ++ lineL ws))] := by
  have h1 : (⟨#[10]⟩ : ByteArray).size = 1 := rfl
  have hs1 : (joinS spB ws).size + (⟨#[10]⟩ : ByteArray).size ≤ 9223372036854775807 := by omega
  have hs2 : l.length + (joinS spB ws ++ (⟨#[10]⟩ : ByteArray)).size ≤ 140737488355328 := by rw [ByteArray.size_append]; omega
  refine vcallIO_of [] Tryz.func25 rfl rfl Tryz.ntmps25 rfl (by simp) (by simp) ?_
  intro C hP hnt hgw hgb
  refine vwp_region rfl ?_
  simp (dsimp := false) only [push_cast, hP, hnt, hgw, hgb, sevalprocAttr, rowU, u8c_free, u8c_tag0, u8c_ioc, u8c_iob, u8c_strict, hs1, hs2, strCells_map]
  refine .inl (callE_intro (join_call gw gb ws spB hw (by omega)) (.inl ⟨rfl, rfl⟩) ?_)
  simp (dsimp := false) only [push_cast, hP, hnt, hgw, hgb, sevalprocAttr, rowU, u8c_free, u8c_tag0, u8c_ioc, u8c_iob, u8c_strict, hs1, hs2, strCells_map]
  first | refine ioE_intro [(0, 0), (0, 1)] (writeString_call1 gw gb l _ hs2) (by first | (simp (dsimp := false) only [push_cast, hP, hnt, hgw, hgb, sevalprocAttr, rowU, u8c_free, u8c_tag0, u8c_ioc, u8c_iob, u8c_strict, hs1, hs2, strCells_map]; rfl) | (simp (dsimp := false) only [push_cast, hP, hnt, hgw, hgb, sevalprocAttr, rowU, u8c_free, u8c_tag0, u8c_ioc, u8c_iob, u8c_strict, hs1, hs2, strCells_map]; done)) (by first | rfl | (simp (dsimp := false) only [push_cast, hP, hnt, hgw, hgb, sevalprocAttr, rowU, u8c_free, u8c_tag0, u8c_ioc, u8c_iob, u8c_strict, hs1, hs2, strCells_map]; done) | (simp (dsimp := false) only [push_cast, hP, hnt, hgw, hgb, sevalprocAttr, rowU, u8c_free, u8c_tag0, u8c_ioc, u8c_iob, u8c_strict, hs1, hs2, strCells_map]; rfl)) (by first | rfl | (simp (dsimp := false) only [push_cast, hP, hnt, hgw, hgb, sevalprocAttr, rowU, u8c_free, u8c_tag0, u8c_ioc, u8c_iob, u8c_strict, hs1, hs2, strCells_map]; done) | (simp (dsimp := false) only [push_cast, hP, hnt, hgw, hgb, sevalprocAttr, rowU, u8c_free, u8c_tag0, u8c_ioc, u8c_iob, u8c_strict, hs1, hs2, strCells_map]; rfl)) (by first | rfl | (simp (dsimp := false) only [push_cast, hP, hnt, hgw, hgb, sevalprocAttr, rowU, u8c_free, u8c_tag0, u8c_ioc, u8c_iob, u8c_strict, hs1, hs2, strCells_map]; done)) (.inl ⟨rfl, by simp (dsimp := false) only [push_cast, hP, hnt, hgw, hgb, sevalprocAttr, rowU, u8c_free, u8c_tag0, u8c_ioc, u8c_iob, u8c_strict, hs1, hs2, strCells_map]⟩) ?_ | refine .inr (ioE_intro [(0, 0), (0, 1)] (writeString_call1 gw gb l _ hs2) (by first | (simp (dsimp := false) only [push_cast, hP, hnt, hgw, hgb, sevalprocAttr, rowU, u8c_free, u8c_tag0, u8c_ioc, u8c_iob, u8c_strict, hs1, hs2, strCells_map]; rfl) | (simp (dsimp := false) only [push_cast, hP, hnt, hgw, hgb, sevalprocAttr, rowU, u8c_free, u8c_tag0, u8c_ioc, u8c_iob, u8c_strict, hs1, hs2, strCells_map]; done)) (by first | rfl | (simp (dsimp := false) only [push_cast, hP, hnt, hgw, hgb, sevalprocAttr, rowU, u8c_free, u8c_tag0, u8c_ioc, u8c_iob, u8c_strict, hs1, hs2, strCells_map]; done) | (simp (dsimp := false) only [push_cast, hP, hnt, hgw, hgb, sevalprocAttr, rowU, u8c_free, u8c_tag0, u8c_ioc, u8c_iob, u8c_strict, hs1, hs2, strCells_map]; rfl)) (by first | rfl | (simp (dsimp := false) only [push_cast, hP, hnt, hgw, hgb, sevalprocAttr, rowU, u8c_free, u8c_tag0, u8c_ioc, u8c_iob, u8c_strict, hs1, hs2, strCells_map]; done) | (simp (dsimp := false) only [push_cast, hP, hnt, hgw, hgb, sevalprocAttr, rowU, u8c_free, u8c_tag0, u8c_ioc, u8c_iob, u8c_strict, hs1, hs2, strCells_map]; rfl)) (by first | rfl | (simp (dsimp := false) only [push_cast, hP, hnt, hgw, hgb, sevalprocAttr, rowU, u8c_free, u8c_tag0, u8c_ioc, u8c_iob, u8c_strict, hs1, hs2, strCells_map]; done)) (.inl ⟨rfl, by simp (dsimp := false) only [push_cast, hP, hnt, hgw, hgb, sevalprocAttr, rowU, u8c_free, u8c_tag0, u8c_ioc, u8c_iob, u8c_strict, hs1, hs2, strCells_map]⟩) ?_)
  simp (dsimp := false) only [push_cast, hP, hnt, hgw, hgb, sevalprocAttr, rowU, u8c_free, u8c_tag0, u8c_ioc, u8c_iob, u8c_strict, hs1, hs2, strCells_map]
  refine ret_io [] [((0, 0), (0, 0)), ((7, 0), (0, 2))] (by simp (dsimp := false) only [push_cast, hP, hnt, hgw, hgb, sevalprocAttr, rowU, u8c_free, u8c_tag0, u8c_ioc, u8c_iob, u8c_strict, hs1, hs2, strCells_map]; rfl) (by simp) (by simp) (by first | decide | simp) ?_ ?_
  · simp only [pack]
    repeat' (first | exact ConvVs.nil | exact ConvL.nil | refine ConvV.tup ?_ | refine ConvVs.cons ?_ ?_ | (refine ConvV.self ?_; simp only [push_cast, u8c_free]; done) | refine ConvV.one ?_ | refine ConvV.agg ?_ | (refine ConvL.free ?_; simp only [push_cast, u8c_free]; done) | refine ConvL.append ?_ ?_ | refine ConvL.cons ?_ ?_ | exact Conv.free rfl | exact Conv.nil | (refine Conv.own ?_; simp; done) | (refine Conv.loc ?_; simp; done) | refine Conv.frz (by simp) (by simp (dsimp := false) only [push_cast, ↓reduceIte, Nat.reduceEqDiff, Nat.reduceAdd, reduceCtorEq, rowU, u8c_free, u8c_tag0, u8c_ioc, u8c_iob, u8c_strict, hs1, hs2, strCells_map] <;> rfl) ?_ | refine Conv.sl (by simp) ?_ | refine Conv.fn ?_)
  · refine rio_cons ⟨(0, 0), _, by simp, by simp, by simp (dsimp := false) only [push_cast, ↓reduceIte, Nat.reduceEqDiff, Nat.reduceAdd, reduceCtorEq, rowU, u8c_free, u8c_tag0, u8c_ioc, u8c_iob, u8c_strict, hs1, hs2, strCells_map] <;> rfl, by first | (refine ConvB.free ?_; simp only [push_cast]; done) | ((first | refine ConvB.arr ?_ | refine ConvB.box ?_); repeat' (first | exact ConvVs.nil | exact ConvL.nil | refine ConvV.tup ?_ | refine ConvVs.cons ?_ ?_ | (refine ConvV.self ?_; simp only [push_cast, u8c_free]; done) | refine ConvV.one ?_ | refine ConvV.agg ?_ | (refine ConvL.free ?_; simp only [push_cast, u8c_free]; done) | refine ConvL.append ?_ ?_ | refine ConvL.cons ?_ ?_ | exact Conv.free rfl | exact Conv.nil | (refine Conv.own ?_; simp; done) | (refine Conv.loc ?_; simp; done) | refine Conv.frz (by simp) (by simp (dsimp := false) only [push_cast, ↓reduceIte, Nat.reduceEqDiff, Nat.reduceAdd, reduceCtorEq, rowU, u8c_free, u8c_tag0, u8c_ioc, u8c_iob, u8c_strict, hs1, hs2, strCells_map] <;> rfl) ?_ | refine Conv.sl (by simp) ?_ | refine Conv.fn ?_))⟩ ?_
    refine rio_none ?_
    refine rio_cons ⟨(7, 0), _, by simp, by simp, by simp (dsimp := false) only [push_cast, ↓reduceIte, Nat.reduceEqDiff, Nat.reduceAdd, reduceCtorEq, rowU, u8c_free, u8c_tag0, u8c_ioc, u8c_iob, u8c_strict, hs1, hs2, strCells_map] <;> rfl, by (try rw [rowU, List.map_append]); exact ConvB.arr (ConvL.free (by rw [frees_append, u8c_free, u8c_free]; rfl))⟩ ?_
    exact rio_nil
end Go.Vm
end

section
namespace Go.Vm
open Go Go.RowKit Go.Proofs
set_option maxRecDepth 100000
set_option linter.unusedSimpArgs false
set_option linter.unusedVariables false
set_option maxHeartbeats 4000000

def wUNKNOWN : ByteArray := ⟨#[85, 78, 75, 78, 79, 87, 78]⟩
def wUNSAFE : ByteArray := ⟨#[85, 78, 83, 65, 70, 69]⟩
def wSAFE : ByteArray := ⟨#[83, 65, 70, 69]⟩
def wfirst : ByteArray := ⟨#[102, 105, 114, 115, 116]⟩
def win : ByteArray := ⟨#[105, 110]⟩
def wskip : ByteArray := ⟨#[115, 107, 105, 112]⟩
def wphases : ByteArray := ⟨#[112, 104, 97, 115, 101, 115]⟩
def wand : ByteArray := ⟨#[97, 110, 100]⟩
def wlit : ByteArray := ⟨#[108, 105, 116]⟩
def lineIn (l : List Bool) : List UInt8 := lineL [win, bitsS l]
def lineAnd (g : Int × Int) : List UInt8 := lineL [wand, itoaB g.1, itoaB g.2]
def preUnsafe (v : Ver) : List UInt8 := lineL [wUNSAFE] ++ lineL [wfirst, bitsS v.first]
def preSafe (v : Ver) : List UInt8 := lineL [wSAFE] ++ lineL [wskip, itoaB v.skip] ++ lineL [wphases, itoaB v.phases]
def verdictL (v : Ver) : List UInt8 :=
  if v.kind = 3 then lineL [wUNKNOWN] else if v.kind = 2 then preUnsafe v ++ v.inputs.flatMap lineIn else preSafe v ++ v.ands.flatMap lineAnd ++ lineL [wlit, itoaB v.lit]
def verdictF (v : Ver) : ByteArray × Int := if mayF v = false then (⟨#[]⟩, 8) else if 40000 < (verdictL v).length then (⟨#[]⟩, 18) else (bOf (verdictL v), 0)
theorem bitsS_size (l : List Bool) : (bitsS l).size ≤ l.length + 1 := by
  unfold bitsS; split
  · rw [bOf_size]; simp
  · rw [bitsB_size]; omega
theorem itoaB_size {n : Int} (h0 : 0 ≤ n) (h1 : n ≤ 2001) : (itoaB n).size ≤ 21 := by
  unfold itoaB; rw [bOf_size]; exact Lib.itoa_length_le n (by omega) (by omega)
theorem sp_size : spB.size = 1 := rfl
theorem inTo_spec {top n : Int} (h : inTo top n = true) : 0 ≤ n ∧ n ≤ top := by unfold inTo at h; simpa using h
theorem flat_bound {α : Type} (f : α → List UInt8) (c : Nat) : ∀ (l : List α), (∀ a ∈ l, (f a).length ≤ c) → (l.flatMap f).length ≤ c * l.length
  | [], _ => by simp
  | a :: l, h => by
    have := flat_bound f c l (fun b hb => h b (List.mem_cons_of_mem _ hb))
    have h1 := h a (by simp)
    rw [List.flatMap_cons, List.length_append, List.length_cons, Nat.mul_succ]
    omega
theorem lineIn_size (l : List Bool) (h : l.length ≤ 1000) : (lineIn l).length ≤ 1100 := by
  unfold lineIn; rw [lineL_size, joinS_two_size, sp_size]
  have := bitsS_size l
  have : win.size = 2 := rfl
  omega
theorem lineAnd_size (g : Int × Int) (h : gateF g = true) : (lineAnd g).length ≤ 100 := by
  unfold gateF at h
  rw [Bool.and_eq_true] at h
  have h1 := inTo_spec h.1
  have h2 := inTo_spec h.2
  unfold lineAnd; rw [lineL_size, joinS_three_size, sp_size]
  have := itoaB_size h1.1 h1.2
  have := itoaB_size h2.1 h2.2
  have : wand.size = 3 := rfl
  omega
theorem lineL_ne (ws : List ByteArray) (l : List UInt8) : l ++ lineL ws ≠ [] := by
  intro h
  have := congrArg List.length h
  rw [List.length_append, lineL_size] at this
  simp at this

structure Unsafe (v : Ver) : Prop where
  some : 1 ≤ v.inputs.length
  few : v.inputs.length ≤ 100
  first : v.first.length ≤ 1000
  each : ∀ l ∈ v.inputs, l.length ≤ 1000
structure Safe (v : Ver) : Prop where
  skip : 0 ≤ v.skip ∧ v.skip ≤ 100
  phases : 0 ≤ v.phases ∧ v.phases ≤ 100
  lit : 0 ≤ v.lit ∧ v.lit ≤ 2001
  few : v.ands.length ≤ 1000
  each : ∀ g ∈ v.ands, gateF g = true
theorem may_unsafe {v : Ver} (h : mayF v = true) (hk : v.kind = 2) : Unsafe v := by
  rcases (mayF_iff v).1 h with ⟨h1, _⟩ | ⟨_, _, h2, h3⟩ | ⟨h1, _⟩
  · omega
  · exact ⟨h2.1, h2.2.1, h2.2.2, fun l hl => by have := List.all_eq_true.1 h3 l hl; unfold wideF at this; simpa using this⟩
  · omega
theorem may_safe {v : Ver} (h : mayF v = true) (hk : v.kind = 1) : Safe v := by
  rcases (mayF_iff v).1 h with ⟨h1, _⟩ | ⟨h1, _⟩ | ⟨_, _, ⟨h2, h3, h4, h5⟩, h6⟩
  · omega
  · omega
  · exact ⟨inTo_spec h2, inTo_spec h3, inTo_spec h5, h4, fun g hg => List.all_eq_true.1 h6 g hg⟩
theorem may_kind {v : Ver} (h : mayF v = true) : v.kind = 3 ∨ v.kind = 2 ∨ v.kind = 1 := by
  rcases (mayF_iff v).1 h with ⟨h1, _⟩ | ⟨h1, _⟩ | ⟨h1, _⟩ <;> simp [h1]
theorem j_one (w : ByteArray) (h : w.size ≤ 100) : (joinS spB [w]).size ≤ 1000000 := by rw [joinS_one]; omega
theorem j_bits (w : ByteArray) (h : w.size ≤ 100) (l : List Bool) (hl : l.length ≤ 1000) : (joinS spB [w, bitsS l]).size ≤ 10000 := by
  rw [joinS_two_size, sp_size]; have := bitsS_size l; omega
theorem j_itoa (w : ByteArray) (h : w.size ≤ 100) {n : Int} (h0 : 0 ≤ n ∧ n ≤ 2001) : (joinS spB [w, itoaB n]).size ≤ 10000 := by
  rw [joinS_two_size, sp_size]; have := itoaB_size h0.1 h0.2; omega
theorem j_and {g : Int × Int} (h : gateF g = true) : (joinS spB [wand, itoaB g.1, itoaB g.2]).size ≤ 1000000 := by
  have := lineAnd_size g h
  unfold lineAnd at this; rw [lineL_size] at this; omega
theorem preUnsafe_len {v : Ver} (h : Unsafe v) : (preUnsafe v).length ≤ 20000 := by
  unfold preUnsafe; rw [List.length_append, lineL_size, lineL_size]
  have := j_bits wfirst (by decide) v.first h.first
  have : (joinS spB [wUNSAFE]).size = 6 := by rw [joinS_one]; rfl
  omega
theorem rowUnsafe_len {v : Ver} (h : Unsafe v) (k : Nat) : (preUnsafe v ++ (v.inputs.take k).flatMap lineIn).length ≤ 1000000 := by
  rw [List.length_append]
  have h1 := flat_bound lineIn 1100 (v.inputs.take k) (fun a ha => lineIn_size a (h.each a (List.mem_of_mem_take ha)))
  have h2 := preUnsafe_len h
  have h3 := h.few
  have h4 : (v.inputs.take k).length ≤ v.inputs.length := by rw [List.length_take]; omega
  have h5 := Nat.mul_le_mul_left 1100 (Nat.le_trans h4 h3)
  omega
theorem preSafe_len {v : Ver} (h : Safe v) : (preSafe v).length ≤ 40000 := by
  unfold preSafe; rw [List.length_append, List.length_append, lineL_size, lineL_size, lineL_size]
  have := j_itoa wskip (by decide) ⟨h.skip.1, by have := h.skip.2; omega⟩
  have := j_itoa wphases (by decide) ⟨h.phases.1, by have := h.phases.2; omega⟩
  have : (joinS spB [wSAFE]).size = 4 := by rw [joinS_one]; rfl
  omega
theorem rowSafe_len {v : Ver} (h : Safe v) (k : Nat) : (preSafe v ++ (v.ands.take k).flatMap lineAnd).length ≤ 1000000 := by
  rw [List.length_append]
  have h1 := flat_bound lineAnd 100 (v.ands.take k) (fun a ha => lineAnd_size a (h.each a (List.mem_of_mem_take ha)))
  have h2 := preSafe_len h
  have h3 := h.few
  have h4 : (v.ands.take k).length ≤ v.ands.length := by rw [List.length_take]; omega
  have h5 := Nat.mul_le_mul_left 100 (Nat.le_trans h4 h3)
  omega
theorem flat_next {α : Type} [Inhabited α] (f : α → List UInt8) {l : List α} {i : Int} (h0 : 0 ≤ i) (h1 : i < (l.length : Int)) : (l.take (i + 1).toNat).flatMap f = (l.take i.toNat).flatMap f ++ f (atI l i) := by
  rw [take_next h0 h1, List.flatMap_append]; simp
theorem verdictF_no {v : Ver} (h : mayF v = false) : verdictF v = (⟨#[]⟩, 8) := if_pos h
theorem verdictF_big {v : Ver} {L : List UInt8} (h : mayF v = true) (hL : verdictL v = L) (hb : 40000 < (L.length : Int)) : verdictF v = (⟨#[]⟩, 18) := by
  unfold verdictF; rw [if_neg (by rw [h]; simp), hL, if_pos (by omega)]
theorem verdictF_ok {v : Ver} {L : List UInt8} (h : mayF v = true) (hL : verdictL v = L) (hb : ¬ 40000 < (L.length : Int)) : verdictF v = (bOf L, 0) := by
  unfold verdictF; rw [if_neg (by rw [h]; simp), hL, if_neg (by omega)]
theorem vL3 {v : Ver} (h : v.kind = 3) : verdictL v = lineL [wUNKNOWN] := if_pos h
theorem vL2 {v : Ver} (h : v.kind = 2) : verdictL v = preUnsafe v ++ v.inputs.flatMap lineIn := by unfold verdictL; rw [if_neg (by omega), if_pos h]
theorem vL1 {v : Ver} (h : v.kind = 1) : verdictL v = preSafe v ++ v.ands.flatMap lineAnd ++ lineL [wlit, itoaB v.lit] := by unfold verdictL; rw [if_neg (by omega), if_neg (by omega)]
theorem preUnsafe_ne (v : Ver) (b : List UInt8) : preUnsafe v ++ b ≠ [] := by
  unfold preUnsafe
  intro h
  have := congrArg List.length h
  simp only [List.length_append, lineL_size, List.length_nil] at this
  omega

end Go.Vm
end
