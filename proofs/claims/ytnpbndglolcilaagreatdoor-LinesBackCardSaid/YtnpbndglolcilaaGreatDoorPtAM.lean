/-
  Walks of the program's functions by the framework, and what they compute (PtAM). Conditions: each theorem's own premises. By an AI agent.
-/
import Derived.Test.YtnpbndglolcilaaGreatDoorPtAL
import Derived.Lib.SplitLaws
import Derived.Lib.AppendIntMem
import Derived.Lib.ItoaLen
section
namespace Go.Vm
open Go Go.RowKit Go.Proofs
set_option maxRecDepth 100000
set_option linter.unusedSimpArgs false
set_option linter.unusedVariables false
set_option maxHeartbeats 4000000

/-! ### What the library gives -/
theorem vcall_fresh_row {P : Program} {gw : World} {gb : Nat} {f : FuncId} (hc : Callable P f) (args vs : List Value) (n : Nat) (ty : TypeId) (hn : vs.length = n) (h1 : ∀ v ∈ vs, v.oneCell' = true)
    (h : ∀ w, Alike gw gb w → Calls P f args.toArray w fun e w' => e = .returned (.slice (some ⟨w.heap.size, 0, none⟩) n n) ∧ w' = w.alloc (.cells vs.toArray ty)) :
    VCall P gw gb f (args.map fun v => .one (.c v)) (.one (.sl true n (vs.map .c))) [] := by
  refine ⟨hc, fun w xs F hgb hgl hlt hr => ?_⟩
  have hx := repVs_plain _ _ hr
  have hxs : xs = args.toArray := by rw [← hx]
  subst hxs
  refine (h w ⟨hgb, hgl⟩).mono fun e w' he => ?_
  obtain ⟨rfl, rfl⟩ := he
  have hh : (w.alloc (.cells vs.toArray ty)).heap[w.heap.size]? = some (.cells vs.toArray ty (0, 0)) := heap_alloc_new w _
  refine ⟨_, fun _ => none, fun g => g = w.heap.size, rfl, ⟨rfl, rfl, rfl, by simp, fun k hk => Lib.alloc_old w _ k hk⟩, fun g hg => by subst hg; exact ⟨Nat.le_refl _, by simp⟩, ?_, by simp, by simp, by simp, by simp⟩
  simp only [repV, rep]
  refine ⟨_, n, rfl, Nat.le_refl _, .inr ⟨_, rfl, rfl, repAt_of_get _ _ fun j p hp => ?_⟩⟩
  rw [List.getElem?_map] at hp
  obtain ⟨v, hv, rfl⟩ := Option.map_eq_some_iff.1 hp
  refine ⟨v, ?_, by simp only [rep]; exact ⟨trivial, h1 v (List.mem_of_getElem? hv)⟩⟩
  rw [Addr.add_lit, cell_of_row _ _ _ _ ty (0, 0) hh]
  simpa using hv

def joinS (sep : ByteArray) (ws : List ByteArray) : ByteArray := ⟨(Lib.join (ws.map (·.data.toList)) sep.data.toList).toArray⟩
theorem join_call (gw : World) (gb : Nat) (ss : List ByteArray) (sep : ByteArray) (hs : ss.length ≤ 100000) (hlen : (joinS sep ss).size ≤ 140737488355328) :
    VCall Tryz.prog gw gb 27 [.one (.sl false ss.length (ss.map fun s => .c (.string s))), .one (.c (.string sep))] (.one (.c (.string (joinS sep ss)))) [] := by
  have key := vcall_row (gw := gw) (gb := gb) (callable_of Tryz.func27 rfl rfl) (ss.map Value.string) [.string sep] (.one (.c (.string (joinS sep ss)))) (fun w b off cap _ hb hcap hcell => ?_) (fun h0 w A cap _ => ?_)
  · simpa [List.map_map, Function.comp_def] using key
  · have := Tryz.strings_Join b off cap ss sep w (fun j x hj => hcell j _ (by simp [hj])) hb (by omega) (by simpa using hcap) (by simpa [joinS, ByteArray.size] using hlen)
    simp only [List.length_map]
    exact this.mono fun e w' ⟨he, hw⟩ => ⟨_, he, hw, fun F => by simp only [repV, rep]; exact ⟨rfl, rfl⟩⟩
  · have h0 : ss = [] := by simpa using h0
    subst h0
    exact (Tryz.strings_Join_none A cap sep w).mono fun e w' ⟨he, hw⟩ => ⟨_, he, hw ▸ Below.refl _ _, fun F => by simp only [repV, rep]; exact ⟨rfl, rfl⟩⟩

def itoaB (n : Int) : ByteArray := bOf (Lib.itoa n)
theorem itoaG_call (gw : World) (hg : Glob gw) (n : Int) (h0 : -9223372036854775808 ≤ n) (h1 : n ≤ 9223372036854775807) : VCall Tryz.prog gw gw.heap.size 29 [.one (.c (.int .i64 n))] (.one (.c (.string (itoaB n)))) [] := by
  refine vcall_plain (callable_of Tryz.func29 rfl rfl) [.int .i64 n] _ fun w hw => ?_
  have htab : Lib.TabIs Tryz.prog w "internal/strconv.uint64pow10" .u64 Lib.pow10Tab := ?_
  · refine (Tryz.strconv_Itoa n h0 h1 w htab).mono fun e w' ⟨he, k, os, hw'⟩ => ⟨_, he, ?_, fun F => by simp only [repV, rep]; exact ⟨rfl, rfl⟩⟩
    rw [hw']
    exact Lib.below_grow _ w (Nat.le_refl _) k os
  · exact var_alike hw hg.pow10

theorem hasSuffix_call (gw : World) (gb : Nat) (s p : ByteArray) (hs : s.size ≤ 9223372036854775807) : VCall Tryz.prog gw gb 39 [.one (.c (.string s)), .one (.c (.string p))] (.one (.c (.bool (Lib.hasSuffix s.data.toList p.data.toList)))) [] :=
  vcall_plain (callable_of Tryz.func39 rfl rfl) [.string s, .string p] _ fun w _ => (Tryz.strings_HasSuffix s p w hs).mono fun e w' ⟨he, hw⟩ => ⟨_, he, hw ▸ Below.refl _ _, fun F => by simp only [repV, rep]; exact ⟨trivial, rfl⟩⟩

theorem trimSuffix_call (gw : World) (gb : Nat) (s p : ByteArray) (hs : s.size ≤ 9223372036854775807) : VCall Tryz.prog gw gb 41 [.one (.c (.string s)), .one (.c (.string p))] (.one (.c (.string (bOf (Lib.trimSuffix s.data.toList p.data.toList))))) [] :=
  vcall_plain (callable_of Tryz.func41 rfl rfl) [.string s, .string p] _ fun w _ => (Tryz.strings_TrimSuffix s p w hs).mono fun e w' ⟨he, hw⟩ => ⟨_, he, hw ▸ Below.refl _ _, fun F => by simp only [repV, rep]; exact ⟨rfl, rfl⟩⟩

def splitS (s sep : ByteArray) : List ByteArray := Lib.splitB sep 0 (Lib.countB s sep) s
theorem splitS_len (s sep : ByteArray) (h1 : 1 ≤ sep.size) : (splitS s sep).length = Lib.countB s sep + 1 := Lib.splitB_all sep h1 0 _ s rfl
theorem split_call (gw : World) (hg : Glob gw) (s sep : ByteArray) (hs : s.size ≤ 100000) (h1 : 1 ≤ sep.size) :
    VCall Tryz.prog gw gw.heap.size 40 [.one (.c (.string s)), .one (.c (.string sep))] (.one (.sl true (splitS s sep).length ((splitS s sep).map fun s => .c (.string s)))) [] := by
  obtain ⟨m, hm⟩ := hg.maxlen
  have := vcall_fresh_row (gw := gw) (gb := gw.heap.size) (callable_of Tryz.func40 rfl rfl) [.string s, .string sep] ((splitS s sep).map Value.string) (splitS s sep).length 9 (by simp) (fun v hv => by
    obtain ⟨b, _, rfl⟩ := List.mem_map.1 hv; rfl) (fun w hw => ?_)
  · simpa [List.map_map, Function.comp_def] using this
  · rw [splitS_len s sep h1]
    exact Tryz.strings_Split s sep m w (by omega) (cell_alike hw hm) h1

def cutL (s sep : ByteArray) : ByteArray := bOf (Lib.cut s.data.toList sep.data.toList).1
def cutT (s sep : ByteArray) : ByteArray := bOf (Lib.cut s.data.toList sep.data.toList).2.1
theorem cutS_call (gw : World) (hg : Glob gw) (s sep : ByteArray) (hs : s.size ≤ 100000) : VCall Tryz.prog gw gw.heap.size 42 [.one (.c (.string s)), .one (.c (.string sep))] (.tup [.one (.c (.string (cutL s sep))), .one (.c (.string (cutT s sep))), .one (.c (.bool (Lib.cut s.data.toList sep.data.toList).2.2))]) [] := by
  obtain ⟨m, hm⟩ := hg.maxlen
  refine vcall_plain (callable_of Tryz.func42 rfl rfl) [.string s, .string sep] _ fun w hw => (Tryz.strings_Cut s sep m w (by omega) (cell_alike hw hm)).mono fun e w' ⟨he, n, hn⟩ => ⟨_, he, hn ▸ below_drewN' w n, fun F => ?_⟩
  simp only [repV, repVs, rep]
  exact ⟨_, rfl, _, _, rfl, ⟨rfl, rfl⟩, _, _, rfl, ⟨rfl, rfl⟩, _, _, rfl, ⟨rfl, rfl⟩, rfl⟩
end Go.Vm
end

section
namespace Go.Vm
open Go Go.RowKit Go.Proofs
set_option maxRecDepth 100000
set_option linter.unusedSimpArgs false
set_option linter.unusedVariables false
set_option maxHeartbeats 4000000

def u8c (b : UInt8) : PC := .c (.int .u8 (b.toNat : Int))
def rowU (l : List UInt8) : Blk := .arr 5 1 l.length (l.map u8c)
theorem strCells_map (s : ByteArray) : (Lib.strCells s).map PC.c = s.data.toList.map u8c := by simp [Lib.strCells, u8c, List.map_map, Function.comp_def]
theorem size_list (s : ByteArray) : s.size = s.data.toList.length := Lib.size_eq s
theorem u8c_free (l : List UInt8) : PC.frees (l.map u8c) = true := by rw [frees_map]; simp [u8c, PC.free]
theorem u8c_tag0 (l : List UInt8) : PC.tag0s (l.map u8c) = true := by rw [tag0s_map]; simp [u8c, PC.tag0]
theorem u8c_ioc (M : List Id) (l : List UInt8) : PC.iocs M (l.map u8c) = l.map u8c := by rw [iocs_map]; rfl
theorem u8c_iob (M : List Id) (s : Nat) (l : List UInt8) : PC.iobs M s (l.map u8c) = l.map u8c := by rw [iobs_map]; rfl
theorem u8c_strict (l : List UInt8) : PC.stricts (l.map u8c) = true := by rw [stricts_map]; simp [u8c, PC.strict]
theorem copyCheck_call (gw : World) (gb : Nat) (p q : PC) (hp : BuilderHead p) (bs : List Blk) :
    VCallIO Tryz.prog gw gb 50 [.one (.loc (0, 0) 0)] (.box 66 [p, q] :: bs) (.tup []) (some (.box 66 [.loc (0, 0) 0, q]) :: bs.map some) :=
  copyCheck_io (callable_of Tryz.func50 rfl rfl) copyCheck_used copyCheck_fresh p q hp bs
theorem bstring_call (gw : World) (gb : Nat) (p : PC) (l : List UInt8) (hl : l ≠ []) :
    VCallIO Tryz.prog gw gb 31 [.one (.loc (0, 0) 0)] [.box 66 [p, .own (0, 1)], rowU l] (.one (.c (.string (bOf l)))) [none, none] :=
  string_io Tryz.lays169 Tryz.Builder_Extra_169 (callable_of Tryz.func31 rfl rfl) p l hl l.length _ rfl (by simp [Lib.byteCells, u8c, List.map_map, Function.comp_def])

theorem writeString_call0 (gw : World) (gb : Nat) (l : List UInt8) (s : ByteArray) (hn : l.length + s.size ≤ 140737488355328) : VCallIO Tryz.prog gw (gb) 26 [.one (.loc (0, 0) 0), .one (.c (.string s))] [.box 66 [.c (.pointer none), .own (0, 1)], rowU l] (.tup [.one (.c (.int .i64 s.size)), .one (.c .nilIface)]) [some (.box 66 [.loc (0, 0) 0, .own (0, 2)]), none, some (rowU (l ++ s.data.toList))] := by
  refine vcallIO_of [.tmp 4, .tmp 5] Tryz.func26 rfl rfl Tryz.ntmps26 rfl (by simp) (by simp) ?_
  intro C hP hnt hgw hgb
  refine vwp_seq_region rfl fun K hK => ?_
  simp (dsimp := false) only [push_cast, hP, hnt, hgw, hgb, sevalprocAttr, rowU, u8c_free, u8c_tag0, u8c_ioc, u8c_iob, u8c_strict, hn, strCells_map]
  refine hK _ ?_; clear hK
  refine vwp_seq_region rfl fun K hK => ?_
  simp (dsimp := false) only [push_cast, hP, hnt, hgw, hgb, sevalprocAttr, rowU, u8c_free, u8c_tag0, u8c_ioc, u8c_iob, u8c_strict, hn, strCells_map]
  first | refine ioE_intro [(0, 0), (0, 1)] (copyCheck_call gw gb (.c (.pointer none)) (.own (0, 1)) (.inl rfl) [rowU l]) (by first | (simp (dsimp := false) only [push_cast, hP, hnt, hgw, hgb, sevalprocAttr, rowU, u8c_free, u8c_tag0, u8c_ioc, u8c_iob, u8c_strict, hn, strCells_map]; rfl) | (simp (dsimp := false) only [push_cast, hP, hnt, hgw, hgb, sevalprocAttr, rowU, u8c_free, u8c_tag0, u8c_ioc, u8c_iob, u8c_strict, hn, strCells_map]; done)) (by first | rfl | (simp (dsimp := false) only [push_cast, hP, hnt, hgw, hgb, sevalprocAttr, rowU, u8c_free, u8c_tag0, u8c_ioc, u8c_iob, u8c_strict, hn, strCells_map]; done) | (simp (dsimp := false) only [push_cast, hP, hnt, hgw, hgb, sevalprocAttr, rowU, u8c_free, u8c_tag0, u8c_ioc, u8c_iob, u8c_strict, hn, strCells_map]; rfl)) (by first | rfl | (simp (dsimp := false) only [push_cast, hP, hnt, hgw, hgb, sevalprocAttr, rowU, u8c_free, u8c_tag0, u8c_ioc, u8c_iob, u8c_strict, hn, strCells_map]; done) | (simp (dsimp := false) only [push_cast, hP, hnt, hgw, hgb, sevalprocAttr, rowU, u8c_free, u8c_tag0, u8c_ioc, u8c_iob, u8c_strict, hn, strCells_map]; rfl)) (by first | rfl | (simp (dsimp := false) only [push_cast, hP, hnt, hgw, hgb, sevalprocAttr, rowU, u8c_free, u8c_tag0, u8c_ioc, u8c_iob, u8c_strict, hn, strCells_map]; done)) (.inl ⟨rfl, by simp (dsimp := false) only [push_cast, hP, hnt, hgw, hgb, sevalprocAttr, rowU, u8c_free, u8c_tag0, u8c_ioc, u8c_iob, u8c_strict, hn, strCells_map]⟩) ?_ | refine .inr (ioE_intro [(0, 0), (0, 1)] (copyCheck_call gw gb (.c (.pointer none)) (.own (0, 1)) (.inl rfl) [rowU l]) (by first | (simp (dsimp := false) only [push_cast, hP, hnt, hgw, hgb, sevalprocAttr, rowU, u8c_free, u8c_tag0, u8c_ioc, u8c_iob, u8c_strict, hn, strCells_map]; rfl) | (simp (dsimp := false) only [push_cast, hP, hnt, hgw, hgb, sevalprocAttr, rowU, u8c_free, u8c_tag0, u8c_ioc, u8c_iob, u8c_strict, hn, strCells_map]; done)) (by first | rfl | (simp (dsimp := false) only [push_cast, hP, hnt, hgw, hgb, sevalprocAttr, rowU, u8c_free, u8c_tag0, u8c_ioc, u8c_iob, u8c_strict, hn, strCells_map]; done) | (simp (dsimp := false) only [push_cast, hP, hnt, hgw, hgb, sevalprocAttr, rowU, u8c_free, u8c_tag0, u8c_ioc, u8c_iob, u8c_strict, hn, strCells_map]; rfl)) (by first | rfl | (simp (dsimp := false) only [push_cast, hP, hnt, hgw, hgb, sevalprocAttr, rowU, u8c_free, u8c_tag0, u8c_ioc, u8c_iob, u8c_strict, hn, strCells_map]; done) | (simp (dsimp := false) only [push_cast, hP, hnt, hgw, hgb, sevalprocAttr, rowU, u8c_free, u8c_tag0, u8c_ioc, u8c_iob, u8c_strict, hn, strCells_map]; rfl)) (by first | rfl | (simp (dsimp := false) only [push_cast, hP, hnt, hgw, hgb, sevalprocAttr, rowU, u8c_free, u8c_tag0, u8c_ioc, u8c_iob, u8c_strict, hn, strCells_map]; done)) (.inl ⟨rfl, by simp (dsimp := false) only [push_cast, hP, hnt, hgw, hgb, sevalprocAttr, rowU, u8c_free, u8c_tag0, u8c_ioc, u8c_iob, u8c_strict, hn, strCells_map]⟩) ?_)
  simp (dsimp := false) only [push_cast, hP, hnt, hgw, hgb, sevalprocAttr, rowU, u8c_free, u8c_tag0, u8c_ioc, u8c_iob, u8c_strict, hn, strCells_map]
  refine hK _ ?_; clear hK
  refine vwp_seq_region rfl fun K hK => ?_
  simp (dsimp := false) only [push_cast, hP, hnt, hgw, hgb, sevalprocAttr, rowU, u8c_free, u8c_tag0, u8c_ioc, u8c_iob, u8c_strict, hn, strCells_map]
  refine hK _ ?_; clear hK
  refine vwp_seq_region rfl fun K hK => ?_
  simp (dsimp := false) only [push_cast, hP, hnt, hgw, hgb, sevalprocAttr, rowU, u8c_free, u8c_tag0, u8c_ioc, u8c_iob, u8c_strict, hn, strCells_map]
  refine hK _ ?_; clear hK
  refine vwp_ret ?_
  refine ret_io [] [((0, 0), (0, 0)), ((15, 0), (0, 2))] (by simp (dsimp := false) only [push_cast, hP, hnt, hgw, hgb, sevalprocAttr, rowU, u8c_free, u8c_tag0, u8c_ioc, u8c_iob, u8c_strict, hn, strCells_map]; rfl) (by simp) (by simp) (by first | decide | simp) ?_ ?_
  · simp only [pack]
    repeat' (first | exact ConvVs.nil | exact ConvL.nil | refine ConvV.tup ?_ | refine ConvVs.cons ?_ ?_ | (refine ConvV.self ?_; simp only [push_cast, u8c_free]; done) | refine ConvV.one ?_ | refine ConvV.agg ?_ | (refine ConvL.free ?_; simp only [push_cast, u8c_free]; done) | refine ConvL.append ?_ ?_ | refine ConvL.cons ?_ ?_ | exact Conv.free rfl | exact Conv.nil | (refine Conv.own ?_; simp; done) | (refine Conv.loc ?_; simp; done) | refine Conv.frz (by simp) (by simp (dsimp := false) only [push_cast, ↓reduceIte, Nat.reduceEqDiff, Nat.reduceAdd, reduceCtorEq, rowU, u8c_free, u8c_tag0, u8c_ioc, u8c_iob, u8c_strict, hn, strCells_map] <;> rfl) ?_ | refine Conv.sl (by simp) ?_ | refine Conv.fn ?_)
  · refine rio_cons ⟨(0, 0), _, by simp, by simp, by simp (dsimp := false) only [push_cast, ↓reduceIte, Nat.reduceEqDiff, Nat.reduceAdd, reduceCtorEq, rowU, u8c_free, u8c_tag0, u8c_ioc, u8c_iob, u8c_strict, hn, strCells_map] <;> rfl, by first | (refine ConvB.free ?_; simp only [push_cast]; done) | ((first | refine ConvB.arr ?_ | refine ConvB.box ?_); repeat' (first | exact ConvVs.nil | exact ConvL.nil | refine ConvV.tup ?_ | refine ConvVs.cons ?_ ?_ | (refine ConvV.self ?_; simp only [push_cast, u8c_free]; done) | refine ConvV.one ?_ | refine ConvV.agg ?_ | (refine ConvL.free ?_; simp only [push_cast, u8c_free]; done) | refine ConvL.append ?_ ?_ | refine ConvL.cons ?_ ?_ | exact Conv.free rfl | exact Conv.nil | (refine Conv.own ?_; simp; done) | (refine Conv.loc ?_; simp; done) | refine Conv.frz (by simp) (by simp (dsimp := false) only [push_cast, ↓reduceIte, Nat.reduceEqDiff, Nat.reduceAdd, reduceCtorEq, rowU, u8c_free, u8c_tag0, u8c_ioc, u8c_iob, u8c_strict, hn, strCells_map] <;> rfl) ?_ | refine Conv.sl (by simp) ?_ | refine Conv.fn ?_))⟩ ?_
    refine rio_none ?_
    refine rio_cons ⟨(15, 0), _, by simp, by simp, by simp (dsimp := false) only [push_cast, ↓reduceIte, Nat.reduceEqDiff, Nat.reduceAdd, reduceCtorEq, rowU, u8c_free, u8c_tag0, u8c_ioc, u8c_iob, u8c_strict, hn, strCells_map] <;> rfl, by rw [rowU, List.map_append, List.length_append, ← size_list]; exact ConvB.arr (ConvL.free (by rw [frees_append, u8c_free, u8c_free]; rfl))⟩ ?_
    exact rio_nil
theorem writeString_call1 (gw : World) (gb : Nat) (l : List UInt8) (s : ByteArray) (hn : l.length + s.size ≤ 140737488355328) : VCallIO Tryz.prog gw (gb) 26 [.one (.loc (0, 0) 0), .one (.c (.string s))] [.box 66 [.loc (0, 0) 0, .own (0, 1)], rowU l] (.tup [.one (.c (.int .i64 s.size)), .one (.c .nilIface)]) [some (.box 66 [.loc (0, 0) 0, .own (0, 2)]), none, some (rowU (l ++ s.data.toList))] := by
  refine vcallIO_of [.tmp 4, .tmp 5] Tryz.func26 rfl rfl Tryz.ntmps26 rfl (by simp) (by simp) ?_
  intro C hP hnt hgw hgb
  refine vwp_seq_region rfl fun K hK => ?_
  simp (dsimp := false) only [push_cast, hP, hnt, hgw, hgb, sevalprocAttr, rowU, u8c_free, u8c_tag0, u8c_ioc, u8c_iob, u8c_strict, hn, strCells_map]
  refine hK _ ?_; clear hK
  refine vwp_seq_region rfl fun K hK => ?_
  simp (dsimp := false) only [push_cast, hP, hnt, hgw, hgb, sevalprocAttr, rowU, u8c_free, u8c_tag0, u8c_ioc, u8c_iob, u8c_strict, hn, strCells_map]
  first | refine ioE_intro [(0, 0), (0, 1)] (copyCheck_call gw gb (.loc (0, 0) 0) (.own (0, 1)) (.inr rfl) [rowU l]) (by first | (simp (dsimp := false) only [push_cast, hP, hnt, hgw, hgb, sevalprocAttr, rowU, u8c_free, u8c_tag0, u8c_ioc, u8c_iob, u8c_strict, hn, strCells_map]; rfl) | (simp (dsimp := false) only [push_cast, hP, hnt, hgw, hgb, sevalprocAttr, rowU, u8c_free, u8c_tag0, u8c_ioc, u8c_iob, u8c_strict, hn, strCells_map]; done)) (by first | rfl | (simp (dsimp := false) only [push_cast, hP, hnt, hgw, hgb, sevalprocAttr, rowU, u8c_free, u8c_tag0, u8c_ioc, u8c_iob, u8c_strict, hn, strCells_map]; done) | (simp (dsimp := false) only [push_cast, hP, hnt, hgw, hgb, sevalprocAttr, rowU, u8c_free, u8c_tag0, u8c_ioc, u8c_iob, u8c_strict, hn, strCells_map]; rfl)) (by first | rfl | (simp (dsimp := false) only [push_cast, hP, hnt, hgw, hgb, sevalprocAttr, rowU, u8c_free, u8c_tag0, u8c_ioc, u8c_iob, u8c_strict, hn, strCells_map]; done) | (simp (dsimp := false) only [push_cast, hP, hnt, hgw, hgb, sevalprocAttr, rowU, u8c_free, u8c_tag0, u8c_ioc, u8c_iob, u8c_strict, hn, strCells_map]; rfl)) (by first | rfl | (simp (dsimp := false) only [push_cast, hP, hnt, hgw, hgb, sevalprocAttr, rowU, u8c_free, u8c_tag0, u8c_ioc, u8c_iob, u8c_strict, hn, strCells_map]; done)) (.inl ⟨rfl, by simp (dsimp := false) only [push_cast, hP, hnt, hgw, hgb, sevalprocAttr, rowU, u8c_free, u8c_tag0, u8c_ioc, u8c_iob, u8c_strict, hn, strCells_map]⟩) ?_ | refine .inr (ioE_intro [(0, 0), (0, 1)] (copyCheck_call gw gb (.loc (0, 0) 0) (.own (0, 1)) (.inr rfl) [rowU l]) (by first | (simp (dsimp := false) only [push_cast, hP, hnt, hgw, hgb, sevalprocAttr, rowU, u8c_free, u8c_tag0, u8c_ioc, u8c_iob, u8c_strict, hn, strCells_map]; rfl) | (simp (dsimp := false) only [push_cast, hP, hnt, hgw, hgb, sevalprocAttr, rowU, u8c_free, u8c_tag0, u8c_ioc, u8c_iob, u8c_strict, hn, strCells_map]; done)) (by first | rfl | (simp (dsimp := false) only [push_cast, hP, hnt, hgw, hgb, sevalprocAttr, rowU, u8c_free, u8c_tag0, u8c_ioc, u8c_iob, u8c_strict, hn, strCells_map]; done) | (simp (dsimp := false) only [push_cast, hP, hnt, hgw, hgb, sevalprocAttr, rowU, u8c_free, u8c_tag0, u8c_ioc, u8c_iob, u8c_strict, hn, strCells_map]; rfl)) (by first | rfl | (simp (dsimp := false) only [push_cast, hP, hnt, hgw, hgb, sevalprocAttr, rowU, u8c_free, u8c_tag0, u8c_ioc, u8c_iob, u8c_strict, hn, strCells_map]; done) | (simp (dsimp := false) only [push_cast, hP, hnt, hgw, hgb, sevalprocAttr, rowU, u8c_free, u8c_tag0, u8c_ioc, u8c_iob, u8c_strict, hn, strCells_map]; rfl)) (by first | rfl | (simp (dsimp := false) only [push_cast, hP, hnt, hgw, hgb, sevalprocAttr, rowU, u8c_free, u8c_tag0, u8c_ioc, u8c_iob, u8c_strict, hn, strCells_map]; done)) (.inl ⟨rfl, by simp (dsimp := false) only [push_cast, hP, hnt, hgw, hgb, sevalprocAttr, rowU, u8c_free, u8c_tag0, u8c_ioc, u8c_iob, u8c_strict, hn, strCells_map]⟩) ?_)
  simp (dsimp := false) only [push_cast, hP, hnt, hgw, hgb, sevalprocAttr, rowU, u8c_free, u8c_tag0, u8c_ioc, u8c_iob, u8c_strict, hn, strCells_map]
  refine hK _ ?_; clear hK
  refine vwp_seq_region rfl fun K hK => ?_
  simp (dsimp := false) only [push_cast, hP, hnt, hgw, hgb, sevalprocAttr, rowU, u8c_free, u8c_tag0, u8c_ioc, u8c_iob, u8c_strict, hn, strCells_map]
  refine hK _ ?_; clear hK
  refine vwp_seq_region rfl fun K hK => ?_
  simp (dsimp := false) only [push_cast, hP, hnt, hgw, hgb, sevalprocAttr, rowU, u8c_free, u8c_tag0, u8c_ioc, u8c_iob, u8c_strict, hn, strCells_map]
  refine hK _ ?_; clear hK
  refine vwp_ret ?_
  refine ret_io [] [((0, 0), (0, 0)), ((15, 0), (0, 2))] (by simp (dsimp := false) only [push_cast, hP, hnt, hgw, hgb, sevalprocAttr, rowU, u8c_free, u8c_tag0, u8c_ioc, u8c_iob, u8c_strict, hn, strCells_map]; rfl) (by simp) (by simp) (by first | decide | simp) ?_ ?_
  · simp only [pack]
    repeat' (first | exact ConvVs.nil | exact ConvL.nil | refine ConvV.tup ?_ | refine ConvVs.cons ?_ ?_ | (refine ConvV.self ?_; simp only [push_cast, u8c_free]; done) | refine ConvV.one ?_ | refine ConvV.agg ?_ | (refine ConvL.free ?_; simp only [push_cast, u8c_free]; done) | refine ConvL.append ?_ ?_ | refine ConvL.cons ?_ ?_ | exact Conv.free rfl | exact Conv.nil | (refine Conv.own ?_; simp; done) | (refine Conv.loc ?_; simp; done) | refine Conv.frz (by simp) (by simp (dsimp := false) only [push_cast, ↓reduceIte, Nat.reduceEqDiff, Nat.reduceAdd, reduceCtorEq, rowU, u8c_free, u8c_tag0, u8c_ioc, u8c_iob, u8c_strict, hn, strCells_map] <;> rfl) ?_ | refine Conv.sl (by simp) ?_ | refine Conv.fn ?_)
  · refine rio_cons ⟨(0, 0), _, by simp, by simp, by simp (dsimp := false) only [push_cast, ↓reduceIte, Nat.reduceEqDiff, Nat.reduceAdd, reduceCtorEq, rowU, u8c_free, u8c_tag0, u8c_ioc, u8c_iob, u8c_strict, hn, strCells_map] <;> rfl, by first | (refine ConvB.free ?_; simp only [push_cast]; done) | ((first | refine ConvB.arr ?_ | refine ConvB.box ?_); repeat' (first | exact ConvVs.nil | exact ConvL.nil | refine ConvV.tup ?_ | refine ConvVs.cons ?_ ?_ | (refine ConvV.self ?_; simp only [push_cast, u8c_free]; done) | refine ConvV.one ?_ | refine ConvV.agg ?_ | (refine ConvL.free ?_; simp only [push_cast, u8c_free]; done) | refine ConvL.append ?_ ?_ | refine ConvL.cons ?_ ?_ | exact Conv.free rfl | exact Conv.nil | (refine Conv.own ?_; simp; done) | (refine Conv.loc ?_; simp; done) | refine Conv.frz (by simp) (by simp (dsimp := false) only [push_cast, ↓reduceIte, Nat.reduceEqDiff, Nat.reduceAdd, reduceCtorEq, rowU, u8c_free, u8c_tag0, u8c_ioc, u8c_iob, u8c_strict, hn, strCells_map] <;> rfl) ?_ | refine Conv.sl (by simp) ?_ | refine Conv.fn ?_))⟩ ?_
    refine rio_none ?_
    refine rio_cons ⟨(15, 0), _, by simp, by simp, by simp (dsimp := false) only [push_cast, ↓reduceIte, Nat.reduceEqDiff, Nat.reduceAdd, reduceCtorEq, rowU, u8c_free, u8c_tag0, u8c_ioc, u8c_iob, u8c_strict, hn, strCells_map] <;> rfl, by rw [rowU, List.map_append, List.length_append, ← size_list]; exact ConvB.arr (ConvL.free (by rw [frees_append, u8c_free, u8c_free]; rfl))⟩ ?_
    exact rio_nil
end Go.Vm
end

section
namespace Go.Vm
open Go Go.RowKit Go.Proofs
set_option maxRecDepth 100000
set_option linter.unusedSimpArgs false
set_option linter.unusedVariables false
set_option maxHeartbeats 4000000

def spB : ByteArray := ⟨#[32]⟩
def lineL (ws : List ByteArray) : List UInt8 := (joinS spB ws ++ ⟨#[10]⟩).data.toList
theorem lineL_size (ws : List ByteArray) : (lineL ws).length = (joinS spB ws).size + 1 := by
  unfold lineL; rw [← size_list, ByteArray.size_append]; rfl
theorem joinS_one (sep a : ByteArray) : joinS sep [a] = a := by
  unfold joinS; rw [List.map_cons, List.map_nil, Lib.join_one]
theorem joinS_two (sep a b : ByteArray) : joinS sep [a, b] = bOf (a.data.toList ++ (sep.data.toList ++ b.data.toList)) := by
  unfold joinS bOf; simp [Lib.join, List.intercalate]
theorem joinS_three (sep a b c : ByteArray) : joinS sep [a, b, c] = bOf (a.data.toList ++ (sep.data.toList ++ (b.data.toList ++ (sep.data.toList ++ c.data.toList)))) := by
  unfold joinS bOf; simp [Lib.join, List.intercalate]
theorem joinS_two_size (sep a b : ByteArray) : (joinS sep [a, b]).size = a.size + sep.size + b.size := by
  rw [joinS_two, bOf_size, List.length_append, List.length_append, ← size_list, ← size_list, ← size_list]; omega
theorem joinS_three_size (sep a b c : ByteArray) : (joinS sep [a, b, c]).size = a.size + sep.size + b.size + sep.size + c.size := by
  rw [joinS_three, bOf_size]; simp only [List.length_append, ← size_list]; omega

theorem blen_call (gw : World) (gb : Nat) (l : List UInt8) : VCallIO Tryz.prog gw (gb) 30 [.one (.loc (0, 0) 0)] [.box 66 [.loc (0, 0) 0, .own (0, 1)], rowU l] (.one (.c (.int .i64 l.length))) [some (.box 66 [.loc (0, 0) 0, .own (0, 1)]), some (rowU l)] := by
  refine vcallIO_of [.tmp 2] Tryz.func30 rfl rfl Tryz.ntmps30 rfl (by simp) (by simp) ?_
  intro C hP hnt hgw hgb
  refine vwp_seq_region rfl fun K hK => ?_
  simp (dsimp := false) only [push_cast, hP, hnt, hgw, hgb, sevalprocAttr, rowU, u8c_free, u8c_tag0, u8c_ioc, u8c_iob, u8c_strict]
  refine hK _ ?_; clear hK
  refine vwp_seq_region rfl fun K hK => ?_
  simp (dsimp := false) only [push_cast, hP, hnt, hgw, hgb, sevalprocAttr, rowU, u8c_free, u8c_tag0, u8c_ioc, u8c_iob, u8c_strict]
  refine hK _ ?_; clear hK
  refine vwp_ret ?_
  refine ret_io [] [((0, 0), (0, 0)), ((0, 1), (0, 1))] (by simp (dsimp := false) only [push_cast, hP, hnt, hgw, hgb, sevalprocAttr, rowU, u8c_free, u8c_tag0, u8c_ioc, u8c_iob, u8c_strict]; rfl) (by simp) (by simp) (by first | decide | simp) ?_ ?_
  · simp only [pack]
    repeat' (first | exact ConvVs.nil | exact ConvL.nil | refine ConvV.tup ?_ | refine ConvVs.cons ?_ ?_ | (refine ConvV.self ?_; simp only [push_cast]; done) | refine ConvV.one ?_ | refine ConvV.agg ?_ | (refine ConvL.free ?_; simp only [push_cast]; done) | refine ConvL.append ?_ ?_ | refine ConvL.cons ?_ ?_ | exact Conv.free rfl | exact Conv.nil | (refine Conv.own ?_; simp; done) | (refine Conv.loc ?_; simp; done) | refine Conv.frz (by simp) (by simp (dsimp := false) only [push_cast, ↓reduceIte, Nat.reduceEqDiff, Nat.reduceAdd, reduceCtorEq, rowU, u8c_free, u8c_tag0, u8c_ioc, u8c_iob, u8c_strict] <;> rfl) ?_ | refine Conv.sl (by simp) ?_ | refine Conv.fn ?_)
  · refine rio_cons ⟨(0, 0), _, by simp, by simp, by simp (dsimp := false) only [push_cast, ↓reduceIte, Nat.reduceEqDiff, Nat.reduceAdd, reduceCtorEq, rowU, u8c_free, u8c_tag0, u8c_ioc, u8c_iob, u8c_strict] <;> rfl, by first | (refine ConvB.free ?_; simp only [push_cast]; done) | ((first | refine ConvB.arr ?_ | refine ConvB.box ?_); repeat' (first | exact ConvVs.nil | exact ConvL.nil | refine ConvV.tup ?_ | refine ConvVs.cons ?_ ?_ | (refine ConvV.self ?_; simp only [push_cast]; done) | refine ConvV.one ?_ | refine ConvV.agg ?_ | (refine ConvL.free ?_; simp only [push_cast]; done) | refine ConvL.append ?_ ?_ | refine ConvL.cons ?_ ?_ | exact Conv.free rfl | exact Conv.nil | (refine Conv.own ?_; simp; done) | (refine Conv.loc ?_; simp; done) | refine Conv.frz (by simp) (by simp (dsimp := false) only [push_cast, ↓reduceIte, Nat.reduceEqDiff, Nat.reduceAdd, reduceCtorEq, rowU, u8c_free, u8c_tag0, u8c_ioc, u8c_iob, u8c_strict] <;> rfl) ?_ | refine Conv.sl (by simp) ?_ | refine Conv.fn ?_))⟩ ?_
    refine rio_cons ⟨(0, 1), _, by simp, by simp, by simp (dsimp := false) only [push_cast, ↓reduceIte, Nat.reduceEqDiff, Nat.reduceAdd, reduceCtorEq, rowU, u8c_free, u8c_tag0, u8c_ioc, u8c_iob, u8c_strict] <;> rfl, by exact ConvB.arr (ConvL.free (u8c_free _))⟩ ?_
    exact rio_nil
theorem line_call0 (gw : World) (gb : Nat) (l : List UInt8) (ws : List ByteArray) (hw : ws.length ≤ 100000) (hj : (joinS spB ws).size ≤ 1000000) (hl : l.length ≤ 100000000) : VCallIO Tryz.prog gw (gb) 25 [.one (.sl false ws.length (ws.map fun s => .c (.string s))), .one (.loc (0, 0) 0)] [.box 66 [.c (.pointer none), .own (0, 1)], rowU l] (.tup []) [some (.box 66 [.loc (0, 0) 0, .own (0, 2)]), none, some (rowU (l ++ lineL ws))] := by
  have h1 : (⟨#[10]⟩ : ByteArray).size = 1 := rfl
  have hs1 : (joinS spB ws).size + (⟨#[10]⟩ : ByteArray).size ≤ 9223372036854775807 := by omega
  have hs2 : l.length + (joinS spB ws ++ (⟨#[10]⟩ : ByteArray)).size ≤ 140737488355328 := by rw [ByteArray.size_append]; omega
  refine vcallIO_of [] Tryz.func25 rfl rfl Tryz.ntmps25 rfl (by simp) (by simp) ?_
  intro C hP hnt hgw hgb
  refine vwp_region rfl ?_
  simp (dsimp := false) only [push_cast, hP, hnt, hgw, hgb, sevalprocAttr, rowU, u8c_free, u8c_tag0, u8c_ioc, u8c_iob, u8c_strict, hs1, hs2, strCells_map]
  refine .inl (callE_intro (join_call gw gb ws spB hw (by omega)) (.inl ⟨rfl, rfl⟩) ?_)
  simp (dsimp := false) only [push_cast, hP, hnt, hgw, hgb, sevalprocAttr, rowU, u8c_free, u8c_tag0, u8c_ioc, u8c_iob, u8c_strict, hs1, hs2, strCells_map]
  first | refine ioE_intro [(0, 0), (0, 1)] (writeString_call0 gw gb l _ hs2) (by first | (simp (dsimp := false) only [push_cast, hP, hnt, hgw, hgb, sevalprocAttr, rowU, u8c_free, u8c_tag0, u8c_ioc, u8c_iob, u8c_strict, hs1, hs2, strCells_map]; rfl) | (simp (dsimp := false) only [push_cast, hP, hnt, hgw, hgb, sevalprocAttr, rowU, u8c_free, u8c_tag0, u8c_ioc, u8c_iob, u8c_strict, hs1, hs2, strCells_map]; done)) (by first | rfl | (simp (dsimp := false) only [push_cast, hP, hnt, hgw, hgb, sevalprocAttr, rowU, u8c_free, u8c_tag0, u8c_ioc, u8c_iob, u8c_strict, hs1, hs2, strCells_map]; done) | (simp (dsimp := false) only [push_cast, hP, hnt, hgw, hgb, sevalprocAttr, rowU, u8c_free, u8c_tag0, u8c_ioc, u8c_iob, u8c_strict, hs1, hs2, strCells_map]; rfl)) (by first | rfl | (simp (dsimp := false) only [push_cast, hP, hnt, hgw, hgb, sevalprocAttr, rowU, u8c_free, u8c_tag0, u8c_ioc, u8c_iob, u8c_strict, hs1, hs2, strCells_map]; done) | (simp (dsimp := false) only [push_cast, hP, hnt, hgw, hgb, sevalprocAttr, rowU, u8c_free, u8c_tag0, u8c_ioc, u8c_iob, u8c_strict, hs1, hs2, strCells_map]; rfl)) (by first | rfl | (simp (dsimp := false) only [push_cast, hP, hnt, hgw, hgb, sevalprocAttr, rowU, u8c_free, u8c_tag0, u8c_ioc, u8c_iob, u8c_strict, hs1, hs2, strCells_map]; done)) (.inl ⟨rfl, by simp (dsimp := false) only [push_cast, hP, hnt, hgw, hgb, sevalprocAttr, rowU, u8c_free, u8c_tag0, u8c_ioc, u8c_iob, u8c_strict, hs1, hs2, strCells_map]⟩) ?_ | refine .inr (ioE_intro [(0, 0), (0, 1)] (writeString_call0 gw gb l _ hs2) (by first | (simp (dsimp := false) only [push_cast, hP, hnt, hgw, hgb, sevalprocAttr, rowU, u8c_free, u8c_tag0, u8c_ioc, u8c_iob, u8c_strict, hs1, hs2, strCells_map]; rfl) | (simp (dsimp := false) only [push_cast, hP, hnt, hgw, hgb, sevalprocAttr, rowU, u8c_free, u8c_tag0, u8c_ioc, u8c_iob, u8c_strict, hs1, hs2, strCells_map]; done)) (by first | rfl | (simp (dsimp := false) only [push_cast, hP, hnt, hgw, hgb, sevalprocAttr, rowU, u8c_free, u8c_tag0, u8c_ioc, u8c_iob, u8c_strict, hs1, hs2, strCells_map]; done) | (simp (dsimp := false) only [push_cast, hP, hnt, hgw, hgb, sevalprocAttr, rowU, u8c_free, u8c_tag0, u8c_ioc, u8c_iob, u8c_strict, hs1, hs2, strCells_map]; rfl)) (by first | rfl | (simp (dsimp := false) only [push_cast, hP, hnt, hgw, hgb, sevalprocAttr, rowU, u8c_free, u8c_tag0, u8c_ioc, u8c_iob, u8c_strict, hs1, hs2, strCells_map]; done) | (simp (dsimp := false) only [push_cast, hP, hnt, hgw, hgb, sevalprocAttr, rowU, u8c_free, u8c_tag0, u8c_ioc, u8c_iob, u8c_strict, hs1, hs2, strCells_map]; rfl)) (by first | rfl | (simp (dsimp := false) only [push_cast, hP, hnt, hgw, hgb, sevalprocAttr, rowU, u8c_free, u8c_tag0, u8c_ioc, u8c_iob, u8c_strict, hs1, hs2, strCells_map]; done)) (.inl ⟨rfl, by simp (dsimp := false) only [push_cast, hP, hnt, hgw, hgb, sevalprocAttr, rowU, u8c_free, u8c_tag0, u8c_ioc, u8c_iob, u8c_strict, hs1, hs2, strCells_map]⟩) ?_)
  simp (dsimp := false) only [push_cast, hP, hnt, hgw, hgb, sevalprocAttr, rowU, u8c_free, u8c_tag0, u8c_ioc, u8c_iob, u8c_strict, hs1, hs2, strCells_map]
  refine ret_io [] [((0, 0), (0, 0)), ((7, 0), (0, 2))] (by simp (dsimp := false) only [push_cast, hP, hnt, hgw, hgb, sevalprocAttr, rowU, u8c_free, u8c_tag0, u8c_ioc, u8c_iob, u8c_strict, hs1, hs2, strCells_map]; rfl) (by simp) (by simp) (by first | decide | simp) ?_ ?_
  · simp only [pack]
    repeat' (first | exact ConvVs.nil | exact ConvL.nil | refine ConvV.tup ?_ | refine ConvVs.cons ?_ ?_ | (refine ConvV.self ?_; simp only [push_cast, u8c_free]; done) | refine ConvV.one ?_ | refine ConvV.agg ?_ | (refine ConvL.free ?_; simp only [push_cast, u8c_free]; done) | refine ConvL.append ?_ ?_ | refine ConvL.cons ?_ ?_ | exact Conv.free rfl | exact Conv.nil | (refine Conv.own ?_; simp; done) | (refine Conv.loc ?_; simp; done) | refine Conv.frz (by simp) (by simp (dsimp := false) only [push_cast, ↓reduceIte, Nat.reduceEqDiff, Nat.reduceAdd, reduceCtorEq, rowU, u8c_free, u8c_tag0, u8c_ioc, u8c_iob, u8c_strict, hs1, hs2, strCells_map] <;> rfl) ?_ | refine Conv.sl (by simp) ?_ | refine Conv.fn ?_)
  · refine rio_cons ⟨(0, 0), _, by simp, by simp, by simp (dsimp := false) only [push_cast, ↓reduceIte, Nat.reduceEqDiff, Nat.reduceAdd, reduceCtorEq, rowU, u8c_free, u8c_tag0, u8c_ioc, u8c_iob, u8c_strict, hs1, hs2, strCells_map] <;> rfl, by first | (refine ConvB.free ?_; simp only [push_cast]; done) | ((first | refine ConvB.arr ?_ | refine ConvB.box ?_); repeat' (first | exact ConvVs.nil | exact ConvL.nil | refine ConvV.tup ?_ | refine ConvVs.cons ?_ ?_ | (refine ConvV.self ?_; simp only [push_cast, u8c_free]; done) | refine ConvV.one ?_ | refine ConvV.agg ?_ | (refine ConvL.free ?_; simp only [push_cast, u8c_free]; done) | refine ConvL.append ?_ ?_ | refine ConvL.cons ?_ ?_ | exact Conv.free rfl | exact Conv.nil | (refine Conv.own ?_; simp; done) | (refine Conv.loc ?_; simp; done) | refine Conv.frz (by simp) (by simp (dsimp := false) only [push_cast, ↓reduceIte, Nat.reduceEqDiff, Nat.reduceAdd, reduceCtorEq, rowU, u8c_free, u8c_tag0, u8c_ioc, u8c_iob, u8c_strict, hs1, hs2, strCells_map] <;> rfl) ?_ | refine Conv.sl (by simp) ?_ | refine Conv.fn ?_))⟩ ?_
    refine rio_none ?_
    refine rio_cons ⟨(7, 0), _, by simp, by simp, by simp (dsimp := false) only [push_cast, ↓reduceIte, Nat.reduceEqDiff, Nat.reduceAdd, reduceCtorEq, rowU, u8c_free, u8c_tag0, u8c_ioc, u8c_iob, u8c_strict, hs1, hs2, strCells_map] <;> rfl, by (try rw [rowU, List.map_append]); exact ConvB.arr (ConvL.free (by rw [frees_append, u8c_free, u8c_free]; rfl))⟩ ?_
    exact rio_nil
theorem line_call1 (gw : World) (gb : Nat) (l : List UInt8) (ws : List ByteArray) (hw : ws.length ≤ 100000) (hj : (joinS spB ws).size ≤ 1000000) (hl : l.length ≤ 100000000) : VCallIO Tryz.prog gw (gb) 25 [.one (.sl false ws.length (ws.map fun s => .c (.string s))), .one (.loc (0, 0) 0)] [.box 66 [.loc (0, 0) 0, .own (0, 1)], rowU l] (.tup []) [some (.box 66 [.loc (0, 0) 0, .own (0, 2)]), none, some (rowU (l ++ lineL ws))] := by
  have h1 : (⟨#[10]⟩ : ByteArray).size = 1 := rfl
  have hs1 : (joinS spB ws).size + (⟨#[10]⟩ : ByteArray).size ≤ 9223372036854775807 := by omega
  have hs2 : l.length + (joinS spB ws ++ (⟨#[10]⟩ : ByteArray)).size ≤ 140737488355328 := by rw [ByteArray.size_append]; omega
  refine vcallIO_of [] Tryz.func25 rfl rfl Tryz.ntmps25 rfl (by simp) (by simp) ?_
  intro C hP hnt hgw hgb
  refine vwp_region rfl ?_
  simp (dsimp := false) only [push_cast, hP, hnt, hgw, hgb, sevalprocAttr, rowU, u8c_free, u8c_tag0, u8c_ioc, u8c_iob, u8c_strict, hs1, hs2, strCells_map]
  refine .inl (callE_intro (join_call gw gb ws spB hw (by omega)) (.inl ⟨rfl, rfl⟩) ?_)
  simp (dsimp := false) only [push_cast, hP, hnt, hgw, hgb, sevalprocAttr, rowU, u8c_free, u8c_tag0, u8c_ioc, u8c_iob, u8c_strict, hs1, hs2, strCells_map]
  first | refine ioE_intro [(0, 0), (0, 1)] (writeString_call1 gw gb l _ hs2) (by first | (simp (dsimp := false) only [push_cast, hP, hnt, hgw, hgb, sevalprocAttr, rowU, u8c_free, u8c_tag0, u8c_ioc, u8c_iob, u8c_strict, hs1, hs2, strCells_map]; rfl) | (simp (dsimp := false) only [push_cast, hP, hnt, hgw, hgb, sevalprocAttr, rowU, u8c_free, u8c_tag0, u8c_ioc, u8c_iob, u8c_strict, hs1, hs2, strCells_map]; done)) (by first | rfl | (simp (dsimp := false) only [push_cast, hP, hnt, hgw, hgb, sevalprocAttr, rowU, u8c_free, u8c_tag0, u8c_ioc, u8c_iob, u8c_strict, hs1, hs2, strCells_map]; done) | (simp (dsimp := false) only [push_cast, hP, hnt, hgw, hgb, sevalprocAttr, rowU, u8c_free, u8c_tag0, u8c_ioc, u8c_iob, u8c_strict, hs1, hs2, strCells_map]; rfl)) (by first | rfl | (simp (dsimp := false) only [push_cast, hP, hnt, hgw, hgb, sevalprocAttr, rowU, u8c_free, u8c_tag0, u8c_ioc, u8c_iob, u8c_strict, hs1, hs2, strCells_map]; done) | (simp (dsimp := false) only [push_cast, hP, hnt, hgw, hgb, sevalprocAttr, rowU, u8c_free, u8c_tag0, u8c_ioc, u8c_iob, u8c_strict, hs1, hs2, strCells_map]; rfl)) (by first | rfl | (simp (dsimp := false) only [push_cast, hP, hnt, hgw, hgb, sevalprocAttr, rowU, u8c_free, u8c_tag0, u8c_ioc, u8c_iob, u8c_strict, hs1, hs2, strCells_map]; done)) (.inl ⟨rfl, by simp (dsimp := false) only [push_cast, hP, hnt, hgw, hgb, sevalprocAttr, rowU, u8c_free, u8c_tag0, u8c_ioc, u8c_iob, u8c_strict, hs1, hs2, strCells_map]⟩) ?_ | refine .inr (ioE_intro [(0, 0), (0, 1)] (writeString_call1 gw gb l _ hs2) (by first | (simp (dsimp := false) only [push_cast, hP, hnt, hgw, hgb, sevalprocAttr, rowU, u8c_free, u8c_tag0, u8c_ioc, u8c_iob, u8c_strict, hs1, hs2, strCells_map]; rfl) | (simp (dsimp := false) only [push_cast, hP, hnt, hgw, hgb, sevalprocAttr, rowU, u8c_free, u8c_tag0, u8c_ioc, u8c_iob, u8c_strict, hs1, hs2, strCells_map]; done)) (by first | rfl | (simp (dsimp := false) only [push_cast, hP, hnt, hgw, hgb, sevalprocAttr, rowU, u8c_free, u8c_tag0, u8c_ioc, u8c_iob, u8c_strict, hs1, hs2, strCells_map]; done) | (simp (dsimp := false) only [push_cast, hP, hnt, hgw, hgb, sevalprocAttr, rowU, u8c_free, u8c_tag0, u8c_ioc, u8c_iob, u8c_strict, hs1, hs2, strCells_map]; rfl)) (by first | rfl | (simp (dsimp := false) only [push_cast, hP, hnt, hgw, hgb, sevalprocAttr, rowU, u8c_free, u8c_tag0, u8c_ioc, u8c_iob, u8c_strict, hs1, hs2, strCells_map]; done) | (simp (dsimp := false) only [push_cast, hP, hnt, hgw, hgb, sevalprocAttr, rowU, u8c_free, u8c_tag0, u8c_ioc, u8c_iob, u8c_strict, hs1, hs2, strCells_map]; rfl)) (by first | rfl | (simp (dsimp := false) only [push_cast, hP, hnt, hgw, hgb, sevalprocAttr, rowU, u8c_free, u8c_tag0, u8c_ioc, u8c_iob, u8c_strict, hs1, hs2, strCells_map]; done)) (.inl ⟨rfl, by simp (dsimp := false) only [push_cast, hP, hnt, hgw, hgb, sevalprocAttr, rowU, u8c_free, u8c_tag0, u8c_ioc, u8c_iob, u8c_strict, hs1, hs2, strCells_map]⟩) ?_)
  simp (dsimp := false) only [push_cast, hP, hnt, hgw, hgb, sevalprocAttr, rowU, u8c_free, u8c_tag0, u8c_ioc, u8c_iob, u8c_strict, hs1, hs2, strCells_map]
  refine ret_io [] [((0, 0), (0, 0)), ((7, 0), (0, 2))] (by simp (dsimp := false) only [push_cast, hP, hnt, hgw, hgb, sevalprocAttr, rowU, u8c_free, u8c_tag0, u8c_ioc, u8c_iob, u8c_strict, hs1, hs2, strCells_map]; rfl) (by simp) (by simp) (by first | decide | simp) ?_ ?_
  · simp only [pack]
    repeat' (first | exact ConvVs.nil | exact ConvL.nil | refine ConvV.tup ?_ | refine ConvVs.cons ?_ ?_ | (refine ConvV.self ?_; simp only [push_cast, u8c_free]; done) | refine ConvV.one ?_ | refine ConvV.agg ?_ | (refine ConvL.free ?_; simp only [push_cast, u8c_free]; done) | refine ConvL.append ?_ ?_ | refine ConvL.cons ?_ ?_ | exact Conv.free rfl | exact Conv.nil | (refine Conv.own ?_; simp; done) | (refine Conv.loc ?_; simp; done) | refine Conv.frz (by simp) (by simp (dsimp := false) only [push_cast, ↓reduceIte, Nat.reduceEqDiff, Nat.reduceAdd, reduceCtorEq, rowU, u8c_free, u8c_tag0, u8c_ioc, u8c_iob, u8c_strict, hs1, hs2, strCells_map] <;> rfl) ?_ | refine Conv.sl (by simp) ?_ | refine Conv.fn ?_)
  · refine rio_cons ⟨(0, 0), _, by simp, by simp, by simp (dsimp := false) only [push_cast, ↓reduceIte, Nat.reduceEqDiff, Nat.reduceAdd, reduceCtorEq, rowU, u8c_free, u8c_tag0, u8c_ioc, u8c_iob, u8c_strict, hs1, hs2, strCells_map] <;> rfl, by first | (refine ConvB.free ?_; simp only [push_cast]; done) | ((first | refine ConvB.arr ?_ | refine ConvB.box ?_); repeat' (first | exact ConvVs.nil | exact ConvL.nil | refine ConvV.tup ?_ | refine ConvVs.cons ?_ ?_ | (refine ConvV.self ?_; simp only [push_cast, u8c_free]; done) | refine ConvV.one ?_ | refine ConvV.agg ?_ | (refine ConvL.free ?_; simp only [push_cast, u8c_free]; done) | refine ConvL.append ?_ ?_ | refine ConvL.cons ?_ ?_ | exact Conv.free rfl | exact Conv.nil | (refine Conv.own ?_; simp; done) | (refine Conv.loc ?_; simp; done) | refine Conv.frz (by simp) (by simp (dsimp := false) only [push_cast, ↓reduceIte, Nat.reduceEqDiff, Nat.reduceAdd, reduceCtorEq, rowU, u8c_free, u8c_tag0, u8c_ioc, u8c_iob, u8c_strict, hs1, hs2, strCells_map] <;> rfl) ?_ | refine Conv.sl (by simp) ?_ | refine Conv.fn ?_))⟩ ?_
    refine rio_none ?_
    refine rio_cons ⟨(7, 0), _, by simp, by simp, by simp (dsimp := false) only [push_cast, ↓reduceIte, Nat.reduceEqDiff, Nat.reduceAdd, reduceCtorEq, rowU, u8c_free, u8c_tag0, u8c_ioc, u8c_iob, u8c_strict, hs1, hs2, strCells_map] <;> rfl, by (try rw [rowU, List.map_append]); exact ConvB.arr (ConvL.free (by rw [frees_append, u8c_free, u8c_free]; rfl))⟩ ?_
    exact rio_nil
end Go.Vm
end

section
namespace Go.Vm
open Go Go.RowKit Go.Proofs
set_option maxRecDepth 100000
set_option linter.unusedSimpArgs false
set_option linter.unusedVariables false
set_option maxHeartbeats 4000000

def wUNKNOWN : ByteArray := ⟨#[85, 78, 75, 78, 79, 87, 78]⟩
def wUNSAFE : ByteArray := ⟨#[85, 78, 83, 65, 70, 69]⟩
def wSAFE : ByteArray := ⟨#[83, 65, 70, 69]⟩
def wfirst : ByteArray := ⟨#[102, 105, 114, 115, 116]⟩
def win : ByteArray := ⟨#[105, 110]⟩
def wskip : ByteArray := ⟨#[115, 107, 105, 112]⟩
def wphases : ByteArray := ⟨#[112, 104, 97, 115, 101, 115]⟩
def wand : ByteArray := ⟨#[97, 110, 100]⟩
def wlit : ByteArray := ⟨#[108, 105, 116]⟩
def lineIn (l : List Bool) : List UInt8 := lineL [win, bitsS l]
def lineAnd (g : Int × Int) : List UInt8 := lineL [wand, itoaB g.1, itoaB g.2]
def preUnsafe (v : Ver) : List UInt8 := lineL [wUNSAFE] ++ lineL [wfirst, bitsS v.first]
def preSafe (v : Ver) : List UInt8 := lineL [wSAFE] ++ lineL [wskip, itoaB v.skip] ++ lineL [wphases, itoaB v.phases]
def verdictL (v : Ver) : List UInt8 :=
  if v.kind = 3 then lineL [wUNKNOWN] else if v.kind = 2 then preUnsafe v ++ v.inputs.flatMap lineIn else preSafe v ++ v.ands.flatMap lineAnd ++ lineL [wlit, itoaB v.lit]
def verdictF (v : Ver) : ByteArray × Int := if mayF v = false then (⟨#[]⟩, 8) else if 40000 < (verdictL v).length then (⟨#[]⟩, 18) else (bOf (verdictL v), 0)
theorem bitsS_size (l : List Bool) : (bitsS l).size ≤ l.length + 1 := by
  unfold bitsS; split
  · rw [bOf_size]; simp
  · rw [bitsB_size]; omega
theorem itoaB_size {n : Int} (h0 : 0 ≤ n) (h1 : n ≤ 2001) : (itoaB n).size ≤ 21 := by
  unfold itoaB; rw [bOf_size]; exact Lib.itoa_length_le n (by omega) (by omega)
theorem sp_size : spB.size = 1 := rfl
theorem inTo_spec {top n : Int} (h : inTo top n = true) : 0 ≤ n ∧ n ≤ top := by unfold inTo at h; simpa using h
theorem flat_bound {α : Type} (f : α → List UInt8) (c : Nat) : ∀ (l : List α), (∀ a ∈ l, (f a).length ≤ c) → (l.flatMap f).length ≤ c * l.length
  | [], _ => by simp
  | a :: l, h => by
    have := flat_bound f c l (fun b hb => h b (List.mem_cons_of_mem _ hb))
    have h1 := h a (by simp)
    rw [List.flatMap_cons, List.length_append, List.length_cons, Nat.mul_succ]
    omega
theorem lineIn_size (l : List Bool) (h : l.length ≤ 1000) : (lineIn l).length ≤ 1100 := by
  unfold lineIn; rw [lineL_size, joinS_two_size, sp_size]
  have := bitsS_size l
  have : win.size = 2 := rfl
  omega
theorem lineAnd_size (g : Int × Int) (h : gateF g = true) : (lineAnd g).length ≤ 100 := by
  unfold gateF at h
  rw [Bool.and_eq_true] at h
  have h1 := inTo_spec h.1
  have h2 := inTo_spec h.2
  unfold lineAnd; rw [lineL_size, joinS_three_size, sp_size]
  have := itoaB_size h1.1 h1.2
  have := itoaB_size h2.1 h2.2
  have : wand.size = 3 := rfl
  omega
theorem lineL_ne (ws : List ByteArray) (l : List UInt8) : l ++ lineL ws ≠ [] := by
  intro h
  have := congrArg List.length h
  rw [List.length_append, lineL_size] at this
  simp at this

structure Unsafe (v : Ver) : Prop where
  some : 1 ≤ v.inputs.length
  few : v.inputs.length ≤ 100
  first : v.first.length ≤ 1000
  each : ∀ l ∈ v.inputs, l.length ≤ 1000
structure Safe (v : Ver) : Prop where
  skip : 0 ≤ v.skip ∧ v.skip ≤ 100
  phases : 0 ≤ v.phases ∧ v.phases ≤ 100
  lit : 0 ≤ v.lit ∧ v.lit ≤ 2001
  few : v.ands.length ≤ 1000
  each : ∀ g ∈ v.ands, gateF g = true
theorem may_unsafe {v : Ver} (h : mayF v = true) (hk : v.kind = 2) : Unsafe v := by
  rcases (mayF_iff v).1 h with ⟨h1, _⟩ | ⟨_, _, h2, h3⟩ | ⟨h1, _⟩
  · omega
  · exact ⟨h2.1, h2.2.1, h2.2.2, fun l hl => by have := List.all_eq_true.1 h3 l hl; unfold wideF at this; simpa using this⟩
  · omega
theorem may_safe {v : Ver} (h : mayF v = true) (hk : v.kind = 1) : Safe v := by
  rcases (mayF_iff v).1 h with ⟨h1, _⟩ | ⟨h1, _⟩ | ⟨_, _, ⟨h2, h3, h4, h5⟩, h6⟩
  · omega
  · omega
  · exact ⟨inTo_spec h2, inTo_spec h3, inTo_spec h5, h4, fun g hg => List.all_eq_true.1 h6 g hg⟩
theorem may_kind {v : Ver} (h : mayF v = true) : v.kind = 3 ∨ v.kind = 2 ∨ v.kind = 1 := by
  rcases (mayF_iff v).1 h with ⟨h1, _⟩ | ⟨h1, _⟩ | ⟨h1, _⟩ <;> simp [h1]
theorem j_one (w : ByteArray) (h : w.size ≤ 100) : (joinS spB [w]).size ≤ 1000000 := by rw [joinS_one]; omega
theorem j_bits (w : ByteArray) (h : w.size ≤ 100) (l : List Bool) (hl : l.length ≤ 1000) : (joinS spB [w, bitsS l]).size ≤ 10000 := by
  rw [joinS_two_size, sp_size]; have := bitsS_size l; omega
theorem j_itoa (w : ByteArray) (h : w.size ≤ 100) {n : Int} (h0 : 0 ≤ n ∧ n ≤ 2001) : (joinS spB [w, itoaB n]).size ≤ 10000 := by
  rw [joinS_two_size, sp_size]; have := itoaB_size h0.1 h0.2; omega
theorem j_and {g : Int × Int} (h : gateF g = true) : (joinS spB [wand, itoaB g.1, itoaB g.2]).size ≤ 1000000 := by
  have := lineAnd_size g h
  unfold lineAnd at this; rw [lineL_size] at this; omega
theorem preUnsafe_len {v : Ver} (h : Unsafe v) : (preUnsafe v).length ≤ 20000 := by
  unfold preUnsafe; rw [List.length_append, lineL_size, lineL_size]
  have := j_bits wfirst (by decide) v.first h.first
  have : (joinS spB [wUNSAFE]).size = 6 := by rw [joinS_one]; rfl
  omega
theorem rowUnsafe_len {v : Ver} (h : Unsafe v) (k : Nat) : (preUnsafe v ++ (v.inputs.take k).flatMap lineIn).length ≤ 1000000 := by
  rw [List.length_append]
  have h1 := flat_bound lineIn 1100 (v.inputs.take k) (fun a ha => lineIn_size a (h.each a (List.mem_of_mem_take ha)))
  have h2 := preUnsafe_len h
  have h3 := h.few
  have h4 : (v.inputs.take k).length ≤ v.inputs.length := by rw [List.length_take]; omega
  have h5 := Nat.mul_le_mul_left 1100 (Nat.le_trans h4 h3)
  omega
theorem preSafe_len {v : Ver} (h : Safe v) : (preSafe v).length ≤ 40000 := by
  unfold preSafe; rw [List.length_append, List.length_append, lineL_size, lineL_size, lineL_size]
  have := j_itoa wskip (by decide) ⟨h.skip.1, by have := h.skip.2; omega⟩
  have := j_itoa wphases (by decide) ⟨h.phases.1, by have := h.phases.2; omega⟩
  have : (joinS spB [wSAFE]).size = 4 := by rw [joinS_one]; rfl
  omega
theorem rowSafe_len {v : Ver} (h : Safe v) (k : Nat) : (preSafe v ++ (v.ands.take k).flatMap lineAnd).length ≤ 1000000 := by
  rw [List.length_append]
  have h1 := flat_bound lineAnd 100 (v.ands.take k) (fun a ha => lineAnd_size a (h.each a (List.mem_of_mem_take ha)))
  have h2 := preSafe_len h
  have h3 := h.few
  have h4 : (v.ands.take k).length ≤ v.ands.length := by rw [List.length_take]; omega
  have h5 := Nat.mul_le_mul_left 100 (Nat.le_trans h4 h3)
  omega
theorem flat_next {α : Type} [Inhabited α] (f : α → List UInt8) {l : List α} {i : Int} (h0 : 0 ≤ i) (h1 : i < (l.length : Int)) : (l.take (i + 1).toNat).flatMap f = (l.take i.toNat).flatMap f ++ f (atI l i) := by
  rw [take_next h0 h1, List.flatMap_append]; simp
theorem verdictF_no {v : Ver} (h : mayF v = false) : verdictF v = (⟨#[]⟩, 8) := if_pos h
theorem verdictF_big {v : Ver} {L : List UInt8} (h : mayF v = true) (hL : verdictL v = L) (hb : 40000 < (L.length : Int)) : verdictF v = (⟨#[]⟩, 18) := by
  unfold verdictF; rw [if_neg (by rw [h]; simp), hL, if_pos (by omega)]
theorem verdictF_ok {v : Ver} {L : List UInt8} (h : mayF v = true) (hL : verdictL v = L) (hb : ¬ 40000 < (L.length : Int)) : verdictF v = (bOf L, 0) := by
  unfold verdictF; rw [if_neg (by rw [h]; simp), hL, if_neg (by omega)]
theorem vL3 {v : Ver} (h : v.kind = 3) : verdictL v = lineL [wUNKNOWN] := if_pos h
theorem vL2 {v : Ver} (h : v.kind = 2) : verdictL v = preUnsafe v ++ v.inputs.flatMap lineIn := by unfold verdictL; rw [if_neg (by omega), if_pos h]
theorem vL1 {v : Ver} (h : v.kind = 1) : verdictL v = preSafe v ++ v.ands.flatMap lineAnd ++ lineL [wlit, itoaB v.lit] := by unfold verdictL; rw [if_neg (by omega), if_neg (by omega)]
theorem preUnsafe_ne (v : Ver) (b : List UInt8) : preUnsafe v ++ b ≠ [] := by
  unfold preUnsafe
  intro h
  have := congrArg List.length h
  simp only [List.length_append, lineL_size, List.length_nil] at this
  omega

end Go.Vm
end
