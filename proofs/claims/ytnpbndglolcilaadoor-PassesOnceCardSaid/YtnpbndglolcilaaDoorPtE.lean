/-
  Walks of the program's functions by the framework, and what they compute. Conditions: each theorem's own premises. By an AI agent.
-/
import Derived.Test.YtnpbndglolcilaaDoorPtD
import Derived.Lib.ConvBytes
namespace Go.Vm
open Go Go.RowKit Go.Proofs
set_option maxRecDepth 100000
set_option linter.unusedSimpArgs false
set_option linter.unusedVariables false
set_option maxHeartbeats 4000000

structure Glob (gw : World) : Prop where
  pow10 : Lib.TabIs Tryd.prog gw "internal/strconv.uint64pow10" .u64 Lib.pow10Tab
  maxlen : ∃ m, gw.cell? ⟨0, 0, none⟩ = some (.int .i64 m)
  esyn : ∃ tp p, gw.var? Tryd.prog "strconv.ErrSyntax" = some #[.iface tp p]
  erange : ∃ tp p, gw.var? Tryd.prog "strconv.ErrRange" = some #[.iface tp p]

theorem var_alike {gw w : World} (ha : Alike gw gw.heap.size w) {name : String} {cs : Array Value} (h : gw.var? Tryd.prog name = some cs) : w.var? Tryd.prog name = some cs := by
  unfold World.var? at h ⊢
  obtain ⟨g, hg, hc⟩ := Option.bind_eq_some_iff.1 h
  rw [hg, Option.bind_some]
  have hlt : g < gw.heap.size := by
    apply Classical.byContradiction
    intro hge
    rw [Array.getElem?_eq_none (by omega)] at hc
    cases hc
  rw [ha.2 g hlt]
  exact hc

theorem cell_alike {gw w : World} (ha : Alike gw gw.heap.size w) {a : Addr} {v : Value} (h : gw.cell? a = some v) : w.cell? a = some v := by
  have hlt : a.block < gw.heap.size := by
    apply Classical.byContradiction
    intro hge
    unfold World.cell? at h
    rw [Array.getElem?_eq_none (by omega)] at h
    cases h
  rw [World.cell?_of_block (ha.2 a.block hlt)]
  exact h

def cutN (s : ByteArray) : ByteArray := ⟨(Lib.cut s.data.toList colon.data.toList).1.toArray⟩
def cutR (s : ByteArray) : ByteArray := ⟨(Lib.cut s.data.toList colon.data.toList).2.1.toArray⟩
def cutB (s : ByteArray) : Bool := (Lib.cut s.data.toList colon.data.toList).2.2
theorem cutR_size (s : ByteArray) : (cutR s).size ≤ s.size := by
  have hs : s.size = s.data.toList.length := (Array.length_toList).symm
  have hr : (cutR s).size = (Lib.cut s.data.toList colon.data.toList).2.1.length := List.size_toArray
  rw [hs, hr]
  unfold Lib.cut
  split
  · simp
  · simp

theorem cut_call (gw : World) (hg : Glob gw) (s : ByteArray) (hs : s.size ≤ 100) : VCall Tryd.prog gw gw.heap.size 34 [.one (.c (.string s)), .one (.c (.string colon))] (.tup [.one (.c (.string (cutN s))), .one (.c (.string (cutR s))), .one (.c (.bool (cutB s)))]) [] := by
  obtain ⟨m, hm⟩ := hg.maxlen
  refine vcall_plain (callable_of Tryd.func34 rfl rfl) [.string s, .string colon] _ fun w hw => (Tryd.strings_Cut s colon m w (by omega) (cell_alike hw hm)).mono fun e w' ⟨he, n, hn⟩ => ⟨_, he, hn ▸ below_drewN' w n, fun F => ?_⟩
  simp only [repV, repVs, rep]
  exact ⟨_, rfl, _, _, rfl, ⟨rfl, rfl⟩, _, _, rfl, ⟨rfl, rfl⟩, _, _, rfl, ⟨rfl, rfl⟩, rfl⟩

def atoiV (t : ByteArray) : Int :=
  match Lib.atoiAll t.data.toList with
  | .ok v => v
  | .range => Lib.atoiSat t.data.toList
  | _ => 0
def atoiE (t : ByteArray) : PC :=
  match Lib.atoiAll t.data.toList with
  | .ok _ => .c .nilIface
  | _ => .ifc

theorem atoi_call (gw : World) (hg : Glob gw) (t : ByteArray) (ht : t.size ≤ 100) : VCall Tryd.prog gw gw.heap.size 35 [.one (.c (.string t))] (.tup [.one (.c (.int .i64 (atoiV t))), .one (atoiE t)]) [] := by
  refine vcall_plain (callable_of Tryd.func35 rfl rfl) [.string t] _ fun w hw => ?_
  unfold atoiV atoiE
  cases h : Lib.atoiAll t.data.toList with
  | ok v =>
    refine (Tryd.strconv_Atoi_ok t (by omega) v h w).mono fun e w' ⟨he, hb⟩ => ⟨_, he, ?_, fun F => ?_⟩
    · rcases hb with rfl | ⟨t', rfl⟩
      · exact Below.refl _ _
      · exact ⟨rfl, rfl, rfl, by rw [Lib.bytesWorld_size]; omega, fun k hk => Lib.bytesWorld_at_old w 5 t' k hk⟩
    · simp only [repV, repVs, rep]
      exact ⟨_, rfl, _, _, rfl, ⟨rfl, rfl⟩, _, _, rfl, ⟨rfl, rfl⟩, rfl⟩
  | range =>
    obtain ⟨tp, p, hv⟩ := hg.erange
    refine (Tryd.strconv_Atoi_range_var t (by omega) h tp p w (var_alike hw hv)).mono fun e w' ⟨N, he, _, _, hb⟩ => ⟨_, he, hb, fun F => ?_⟩
    simp only [repV, repVs, rep]
    exact ⟨_, rfl, _, _, rfl, ⟨rfl, rfl⟩, _, _, rfl, ⟨_, _, rfl⟩, rfl⟩
  | _ =>
    obtain ⟨tp, p, hv⟩ := hg.esyn
    refine (Any.strconv_Atoi_syntax_var Tryd.laysC172 t (by omega) h tp p w (var_alike hw hv)).mono fun e w' ⟨N, he, _, _, hb⟩ => ⟨_, he, hb, fun F => ?_⟩
    simp only [repV, repVs, rep]
    exact ⟨_, rfl, _, _, rfl, ⟨rfl, rfl⟩, _, _, rfl, ⟨_, _, rfl⟩, rfl⟩

theorem atoiE_strict (t : ByteArray) : (PV.tup [.one (.c (.int .i64 (atoiV t))), .one (atoiE t)]).strict = true := by
  have : (atoiE t).strict = true := by unfold atoiE; split <;> rfl
  simp only [PV.strict, PV.stricts, this]; rfl

def readF (s : ByteArray) : ByteArray × Int × Int :=
  if (textF (cutN s) (atoiV (cutR s))).2 ≠ 0 ∨ (textF (cutN s) (atoiV (cutR s))).1.toList ≠ s.toList then (⟨#[]⟩, 0, 12) else (cutN s, atoiV (cutR s), 0)

theorem read_call (gw : World) (hg : Glob gw) (s : ByteArray) (hs : s.size ≤ 100) : VCall Tryd.prog gw (gw.heap.size) 10 [.one (.c (.string s))] (.tup [.agg [.c (.string (readF s).1), .c (.int .i64 (readF s).2.1)], .one (.c (.int .i64 (readF s).2.2))]) [] := by
  refine vcall_of [.cell 2 23, .tmp 3] Tryd.func10 rfl rfl Tryd.ntmps10 rfl (by simp) ?_
  intro C hP hnt hgw hgb hfull
  refine vwp_seq_region rfl fun K hK => ?_
  simp only [push_cast, hP, hnt, hgw, hgb, Nat.reduceLT, Nat.reduceEqDiff, Nat.reduceAdd, Nat.reduceSub, Nat.reduceMul, Nat.reduceLeDiff, reduceIte, reduceCtorEq, ne_eq, String.reduceEq, not_false_eq_true, Bool.not_not]
  refine hK _ ?_; clear hK
  refine vwp_seq_region rfl fun K hK => ?_
  simp only [push_cast, hP, hnt, hgw, hgb, Nat.reduceLT, Nat.reduceEqDiff, Nat.reduceAdd, Nat.reduceSub, Nat.reduceMul, Nat.reduceLeDiff, reduceIte, reduceCtorEq, ne_eq, String.reduceEq, not_false_eq_true, Bool.not_not]
  refine callE_intro (cut_call gw hg s hs) (.inl ⟨rfl, rfl⟩) ?_
  simp only [push_cast, hP, hnt, hgw, hgb, Nat.reduceLT, Nat.reduceEqDiff, Nat.reduceAdd, Nat.reduceSub, Nat.reduceMul, Nat.reduceLeDiff, reduceIte, reduceCtorEq, ne_eq, String.reduceEq, not_false_eq_true, Bool.not_not]
  refine hK _ ?_; clear hK
  refine vwp_seq_region rfl fun K hK => ?_
  simp only [push_cast, hP, hnt, hgw, hgb, Nat.reduceLT, Nat.reduceEqDiff, Nat.reduceAdd, Nat.reduceSub, Nat.reduceMul, Nat.reduceLeDiff, reduceIte, reduceCtorEq, ne_eq, String.reduceEq, not_false_eq_true, Bool.not_not]
  refine hK _ ?_; clear hK
  refine vwp_seq_region rfl fun K hK => ?_
  simp only [push_cast, hP, hnt, hgw, hgb, Nat.reduceLT, Nat.reduceEqDiff, Nat.reduceAdd, Nat.reduceSub, Nat.reduceMul, Nat.reduceLeDiff, reduceIte, reduceCtorEq, ne_eq, String.reduceEq, not_false_eq_true, Bool.not_not]
  refine callE_intro (atoi_call gw hg (cutR s) (by have := cutR_size s; omega)) (.inl ⟨atoiE_strict _, rfl⟩) ?_
  simp only [push_cast, hP, hnt, hgw, hgb, Nat.reduceLT, Nat.reduceEqDiff, Nat.reduceAdd, Nat.reduceSub, Nat.reduceMul, Nat.reduceLeDiff, reduceIte, reduceCtorEq, ne_eq, String.reduceEq, not_false_eq_true, Bool.not_not]
  refine hK _ ?_; clear hK
  refine vwp_seq fun K hK => ?_
  refine vwp_seq_region rfl fun K hK => ?_
  simp only [push_cast, hP, hnt, hgw, hgb, Nat.reduceLT, Nat.reduceEqDiff, Nat.reduceAdd, Nat.reduceSub, Nat.reduceMul, Nat.reduceLeDiff, reduceIte, reduceCtorEq, ne_eq, String.reduceEq, not_false_eq_true, Bool.not_not]
  refine callE_intro (text_call gw gw.heap.size _ _) (.inl ⟨rfl, rfl⟩) ?_
  simp only [push_cast, hP, hnt, hgw, hgb, Nat.reduceLT, Nat.reduceEqDiff, Nat.reduceAdd, Nat.reduceSub, Nat.reduceMul, Nat.reduceLeDiff, reduceIte, reduceCtorEq, ne_eq, String.reduceEq, not_false_eq_true, Bool.not_not]
  refine hK _ ?_; clear hK
  refine vwp_seq_regionG fun K hK => ?_
  simp only [push_cast, hP, hnt, hgw, hgb, Nat.reduceLT, Nat.reduceEqDiff, Nat.reduceAdd, Nat.reduceSub, Nat.reduceMul, Nat.reduceLeDiff, reduceIte, reduceCtorEq, ne_eq, String.reduceEq, not_false_eq_true, Bool.not_not]
  refine guardR_may (by simp only [push_cast, hP, hnt, hgw, hgb, Nat.reduceLT, Nat.reduceEqDiff, Nat.reduceAdd, Nat.reduceSub, Nat.reduceMul, Nat.reduceLeDiff, reduceIte, reduceCtorEq, ne_eq, String.reduceEq, not_false_eq_true, Bool.not_not, List.getElem?_cons_zero, List.getElem?_cons_succ]; rfl) ?_
  simp only [push_cast, hP, hnt, hgw, hgb, Nat.reduceLT, Nat.reduceEqDiff, Nat.reduceAdd, Nat.reduceSub, Nat.reduceMul, Nat.reduceLeDiff, reduceIte, reduceCtorEq, ne_eq, String.reduceEq, not_false_eq_true, Bool.not_not]
  refine guardR_may (by simp only [push_cast, hP, hnt, hgw, hgb, Nat.reduceLT, Nat.reduceEqDiff, Nat.reduceAdd, Nat.reduceSub, Nat.reduceMul, Nat.reduceLeDiff, reduceIte, reduceCtorEq, ne_eq, String.reduceEq, not_false_eq_true, Bool.not_not, List.getElem?_cons_zero, List.getElem?_cons_succ]; rfl) ?_
  simp only [push_cast, hP, hnt, hgw, hgb, Nat.reduceLT, Nat.reduceEqDiff, Nat.reduceAdd, Nat.reduceSub, Nat.reduceMul, Nat.reduceLeDiff, reduceIte, reduceCtorEq, ne_eq, String.reduceEq, not_false_eq_true, Bool.not_not]
  refine guardR_may (by simp only [push_cast, hP, hnt, hgw, hgb, Nat.reduceLT, Nat.reduceEqDiff, Nat.reduceAdd, Nat.reduceSub, Nat.reduceMul, Nat.reduceLeDiff, reduceIte, reduceCtorEq, ne_eq, String.reduceEq, not_false_eq_true, Bool.not_not, List.getElem?_cons_zero, List.getElem?_cons_succ]; rfl) ?_
  simp only [push_cast, hP, hnt, hgw, hgb, Nat.reduceLT, Nat.reduceEqDiff, Nat.reduceAdd, Nat.reduceSub, Nat.reduceMul, Nat.reduceLeDiff, reduceIte, reduceCtorEq, ne_eq, String.reduceEq, not_false_eq_true, Bool.not_not]
  refine hK _ ?_; clear hK
  refine vwp_cond (b := _) (by simp only [push_cast, hP, hnt, hgw, hgb, Nat.reduceLT, Nat.reduceEqDiff, Nat.reduceAdd, Nat.reduceSub, Nat.reduceMul, Nat.reduceLeDiff, reduceIte, reduceCtorEq, ne_eq, String.reduceEq, not_false_eq_true, Bool.not_not]; rfl) (fun rb0 => ?_) (fun rb0 => ?_)
  · have hb0 := rb0
    try simp only [beq_iff_eq, bne_iff_ne, ne_eq, bne_eq_false_iff_eq, beq_eq_false_iff_ne, decide_eq_true_eq, decide_eq_false_iff_not, Bool.not_eq_true', Bool.not_eq_false', Bool.or_eq_true, Bool.and_eq_true, Bool.or_eq_false_iff, Bool.and_eq_false_iff] at hb0
    refine vwp_seq_region rfl fun K hK => ?_
    simp only [push_cast, hP, hnt, hgw, hgb, Nat.reduceLT, Nat.reduceEqDiff, Nat.reduceAdd, Nat.reduceSub, Nat.reduceMul, Nat.reduceLeDiff, reduceIte, reduceCtorEq, ne_eq, String.reduceEq, not_false_eq_true, Bool.not_not]
    refine hK _ ?_; clear hK
    refine vwp_ret ?_
    refine ret_free (by simp only [push_cast, hP, hnt, hgw, hgb, Nat.reduceLT, Nat.reduceEqDiff, Nat.reduceAdd, Nat.reduceSub, Nat.reduceMul, Nat.reduceLeDiff, reduceIte, reduceCtorEq, ne_eq, String.reduceEq, not_false_eq_true, Bool.not_not]; rfl) (by simp only [push_cast, hP, hnt, hgw, hgb, Nat.reduceLT, Nat.reduceEqDiff, Nat.reduceAdd, Nat.reduceSub, Nat.reduceMul, Nat.reduceLeDiff, reduceIte, reduceCtorEq, ne_eq, String.reduceEq, not_false_eq_true, Bool.not_not]) ?_
    first | (simp only [pack, readF, rb0, if_true, if_false, Bool.false_eq_true, reduceIte]; done) | (simp only [pack, readF, hb0, if_true, if_false, ne_eq, not_true_eq_false, not_false_eq_true, true_or, or_true, or_self, ite_self, Bool.true_eq_false, Bool.false_eq_true, or_false, false_or]; done) | (subst_vars; simp only [pack, readF, *, if_true, if_false, ne_eq, not_true_eq_false, not_false_eq_true, true_or, or_true, or_self, ite_self, Bool.true_eq_false, Bool.false_eq_true, or_false, false_or]; done) | (simp [pack, readF, hb0] <;> omega)
  · have hb0 := rb0
    try simp only [beq_iff_eq, bne_iff_ne, ne_eq, bne_eq_false_iff_eq, beq_eq_false_iff_ne, decide_eq_true_eq, decide_eq_false_iff_not, Bool.not_eq_true', Bool.not_eq_false', Bool.or_eq_true, Bool.and_eq_true, Bool.or_eq_false_iff, Bool.and_eq_false_iff] at hb0
    refine vwp_skip ?_
    apply_assumption
    refine vwp_seq_region rfl fun K hK => ?_
    simp only [push_cast, hP, hnt, hgw, hgb, Nat.reduceLT, Nat.reduceEqDiff, Nat.reduceAdd, Nat.reduceSub, Nat.reduceMul, Nat.reduceLeDiff, reduceIte, reduceCtorEq, ne_eq, String.reduceEq, not_false_eq_true, Bool.not_not]
    refine hK _ ?_; clear hK
    refine vwp_ret ?_
    refine ret_free (by simp only [push_cast, hP, hnt, hgw, hgb, Nat.reduceLT, Nat.reduceEqDiff, Nat.reduceAdd, Nat.reduceSub, Nat.reduceMul, Nat.reduceLeDiff, reduceIte, reduceCtorEq, ne_eq, String.reduceEq, not_false_eq_true, Bool.not_not]; rfl) (by simp only [push_cast, hP, hnt, hgw, hgb, Nat.reduceLT, Nat.reduceEqDiff, Nat.reduceAdd, Nat.reduceSub, Nat.reduceMul, Nat.reduceLeDiff, reduceIte, reduceCtorEq, ne_eq, String.reduceEq, not_false_eq_true, Bool.not_not]) ?_
    first | (simp only [pack, readF, rb0, if_true, if_false, Bool.false_eq_true, reduceIte]; done) | (simp only [pack, readF, hb0, if_true, if_false, ne_eq, not_true_eq_false, not_false_eq_true, true_or, or_true, or_self, ite_self, Bool.true_eq_false, Bool.false_eq_true, or_false, false_or]; done) | (subst_vars; simp only [pack, readF, *, if_true, if_false, ne_eq, not_true_eq_false, not_false_eq_true, true_or, or_true, or_self, ite_self, Bool.true_eq_false, Bool.false_eq_true, or_false, false_or]; done) | (simp [pack, readF, hb0] <;> omega)
def passesTextsF (n : ByteArray) (k : Int) (s : ByteArray) : Bool :=
  if 100 < (s.size : Int) then true
  else ((textF n k).1.toList == (refTextF n k).1.toList) && ((textF n k).2 == (refTextF n k).2) && (((readF s).1.toList == (refReadF s).1.toList) && (((readF s).2.1 == (refReadF s).2.1) && true)) && ((readF s).2.2 == (refReadF s).2.2)

theorem passesTexts_call (gw : World) (hg : Glob gw) (n : ByteArray) (k : Int) (s : ByteArray) : VCall Tryd.prog gw (gw.heap.size) 3 [.agg [.c (.string n), .c (.int .i64 k)], .one (.c (.string s))] (.one (.c (.bool (passesTextsF n k s)))) [] := by
  refine vcall_of [.tmp 4] Tryd.func3 rfl rfl Tryd.ntmps3 rfl (by simp) ?_
  intro C hP hnt hgw hgb hfull
  refine vwp_seq_region rfl fun K hK => ?_
  simp only [push_cast, hP, hnt, hgw, hgb, Nat.reduceLT, Nat.reduceEqDiff, Nat.reduceAdd, Nat.reduceSub, Nat.reduceMul, Nat.reduceLeDiff, reduceIte, reduceCtorEq, ne_eq, String.reduceEq, not_false_eq_true, Bool.not_not]
  refine hK _ ?_; clear hK
  refine vwp_seq fun K hK => ?_
  refine vwp_seq_region rfl fun K hK => ?_
  simp only [push_cast, hP, hnt, hgw, hgb, Nat.reduceLT, Nat.reduceEqDiff, Nat.reduceAdd, Nat.reduceSub, Nat.reduceMul, Nat.reduceLeDiff, reduceIte, reduceCtorEq, ne_eq, String.reduceEq, not_false_eq_true, Bool.not_not]
  refine hK _ ?_; clear hK
  refine vwp_cond (b := _) (by simp only [push_cast, hP, hnt, hgw, hgb, Nat.reduceLT, Nat.reduceEqDiff, Nat.reduceAdd, Nat.reduceSub, Nat.reduceMul, Nat.reduceLeDiff, reduceIte, reduceCtorEq, ne_eq, String.reduceEq, not_false_eq_true, Bool.not_not]; rfl) (fun rb0 => ?_) (fun rb0 => ?_)
  · have hb0 := rb0
    try simp only [beq_iff_eq, bne_iff_ne, ne_eq, bne_eq_false_iff_eq, beq_eq_false_iff_ne, decide_eq_true_eq, decide_eq_false_iff_not, Bool.not_eq_true', Bool.not_eq_false', Bool.or_eq_true, Bool.and_eq_true, Bool.or_eq_false_iff, Bool.and_eq_false_iff] at hb0
    refine vwp_seq_region rfl fun K hK => ?_
    simp only [push_cast, hP, hnt, hgw, hgb, Nat.reduceLT, Nat.reduceEqDiff, Nat.reduceAdd, Nat.reduceSub, Nat.reduceMul, Nat.reduceLeDiff, reduceIte, reduceCtorEq, ne_eq, String.reduceEq, not_false_eq_true, Bool.not_not]
    refine hK _ ?_; clear hK
    refine vwp_ret ?_
    refine ret_free (by simp only [push_cast, hP, hnt, hgw, hgb, Nat.reduceLT, Nat.reduceEqDiff, Nat.reduceAdd, Nat.reduceSub, Nat.reduceMul, Nat.reduceLeDiff, reduceIte, reduceCtorEq, ne_eq, String.reduceEq, not_false_eq_true, Bool.not_not]; rfl) (by simp only [push_cast, hP, hnt, hgw, hgb, Nat.reduceLT, Nat.reduceEqDiff, Nat.reduceAdd, Nat.reduceSub, Nat.reduceMul, Nat.reduceLeDiff, reduceIte, reduceCtorEq, ne_eq, String.reduceEq, not_false_eq_true, Bool.not_not]) ?_
    first | (simp only [pack, passesTextsF, rb0, if_true, if_false, Bool.false_eq_true, reduceIte]; done) | (simp only [pack, passesTextsF, hb0, if_true, if_false, ne_eq, not_true_eq_false, not_false_eq_true, true_or, or_true, or_self, ite_self, Bool.true_eq_false, Bool.false_eq_true, or_false, false_or]; done) | (subst_vars; simp only [pack, passesTextsF, *, if_true, if_false, ne_eq, not_true_eq_false, not_false_eq_true, true_or, or_true, or_self, ite_self, Bool.true_eq_false, Bool.false_eq_true, or_false, false_or]; done) | (simp [pack, passesTextsF, hb0] <;> omega)
  · have hb0 := rb0
    try simp only [beq_iff_eq, bne_iff_ne, ne_eq, bne_eq_false_iff_eq, beq_eq_false_iff_ne, decide_eq_true_eq, decide_eq_false_iff_not, Bool.not_eq_true', Bool.not_eq_false', Bool.or_eq_true, Bool.and_eq_true, Bool.or_eq_false_iff, Bool.and_eq_false_iff] at hb0
    refine vwp_skip ?_
    apply_assumption
    refine vwp_seq_region rfl fun K hK => ?_
    simp only [push_cast, hP, hnt, hgw, hgb, Nat.reduceLT, Nat.reduceEqDiff, Nat.reduceAdd, Nat.reduceSub, Nat.reduceMul, Nat.reduceLeDiff, reduceIte, reduceCtorEq, ne_eq, String.reduceEq, not_false_eq_true, Bool.not_not]
    refine callE_intro (text_call gw gw.heap.size _ _) (.inl ⟨rfl, rfl⟩) ?_
    simp only [push_cast, hP, hnt, hgw, hgb, Nat.reduceLT, Nat.reduceEqDiff, Nat.reduceAdd, Nat.reduceSub, Nat.reduceMul, Nat.reduceLeDiff, reduceIte, reduceCtorEq, ne_eq, String.reduceEq, not_false_eq_true, Bool.not_not]
    refine hK _ ?_; clear hK
    refine vwp_seq_region rfl fun K hK => ?_
    simp only [push_cast, hP, hnt, hgw, hgb, Nat.reduceLT, Nat.reduceEqDiff, Nat.reduceAdd, Nat.reduceSub, Nat.reduceMul, Nat.reduceLeDiff, reduceIte, reduceCtorEq, ne_eq, String.reduceEq, not_false_eq_true, Bool.not_not]
    refine callE_intro (refText_call gw gw.heap.size _ _) (.inl ⟨rfl, rfl⟩) ?_
    simp only [push_cast, hP, hnt, hgw, hgb, Nat.reduceLT, Nat.reduceEqDiff, Nat.reduceAdd, Nat.reduceSub, Nat.reduceMul, Nat.reduceLeDiff, reduceIte, reduceCtorEq, ne_eq, String.reduceEq, not_false_eq_true, Bool.not_not]
    refine hK _ ?_; clear hK
    refine vwp_seq_region rfl fun K hK => ?_
    simp only [push_cast, hP, hnt, hgw, hgb, Nat.reduceLT, Nat.reduceEqDiff, Nat.reduceAdd, Nat.reduceSub, Nat.reduceMul, Nat.reduceLeDiff, reduceIte, reduceCtorEq, ne_eq, String.reduceEq, not_false_eq_true, Bool.not_not]
    refine callE_intro (read_call gw hg s (by omega)) (.inl ⟨rfl, rfl⟩) ?_
    simp only [push_cast, hP, hnt, hgw, hgb, Nat.reduceLT, Nat.reduceEqDiff, Nat.reduceAdd, Nat.reduceSub, Nat.reduceMul, Nat.reduceLeDiff, reduceIte, reduceCtorEq, ne_eq, String.reduceEq, not_false_eq_true, Bool.not_not]
    refine hK _ ?_; clear hK
    refine vwp_seq_region rfl fun K hK => ?_
    simp only [push_cast, hP, hnt, hgw, hgb, Nat.reduceLT, Nat.reduceEqDiff, Nat.reduceAdd, Nat.reduceSub, Nat.reduceMul, Nat.reduceLeDiff, reduceIte, reduceCtorEq, ne_eq, String.reduceEq, not_false_eq_true, Bool.not_not]
    refine callE_intro (refRead_call gw gw.heap.size s) (.inl ⟨rfl, rfl⟩) ?_
    simp only [push_cast, hP, hnt, hgw, hgb, Nat.reduceLT, Nat.reduceEqDiff, Nat.reduceAdd, Nat.reduceSub, Nat.reduceMul, Nat.reduceLeDiff, reduceIte, reduceCtorEq, ne_eq, String.reduceEq, not_false_eq_true, Bool.not_not]
    refine hK _ ?_; clear hK
    refine vwp_seq_regionG fun K hK => ?_
    simp only [push_cast, hP, hnt, hgw, hgb, Nat.reduceLT, Nat.reduceEqDiff, Nat.reduceAdd, Nat.reduceSub, Nat.reduceMul, Nat.reduceLeDiff, reduceIte, reduceCtorEq, ne_eq, String.reduceEq, not_false_eq_true, Bool.not_not]
    refine guardR_may (by simp only [push_cast, hP, hnt, hgw, hgb, Nat.reduceLT, Nat.reduceEqDiff, Nat.reduceAdd, Nat.reduceSub, Nat.reduceMul, Nat.reduceLeDiff, reduceIte, reduceCtorEq, ne_eq, String.reduceEq, not_false_eq_true, Bool.not_not, List.getElem?_cons_zero, List.getElem?_cons_succ]; rfl) ?_
    simp only [push_cast, hP, hnt, hgw, hgb, Nat.reduceLT, Nat.reduceEqDiff, Nat.reduceAdd, Nat.reduceSub, Nat.reduceMul, Nat.reduceLeDiff, reduceIte, reduceCtorEq, ne_eq, String.reduceEq, not_false_eq_true, Bool.not_not]
    refine guardR_may (by simp only [push_cast, hP, hnt, hgw, hgb, Nat.reduceLT, Nat.reduceEqDiff, Nat.reduceAdd, Nat.reduceSub, Nat.reduceMul, Nat.reduceLeDiff, reduceIte, reduceCtorEq, ne_eq, String.reduceEq, not_false_eq_true, Bool.not_not, List.getElem?_cons_zero, List.getElem?_cons_succ]; rfl) ?_
    simp only [push_cast, hP, hnt, hgw, hgb, Nat.reduceLT, Nat.reduceEqDiff, Nat.reduceAdd, Nat.reduceSub, Nat.reduceMul, Nat.reduceLeDiff, reduceIte, reduceCtorEq, ne_eq, String.reduceEq, not_false_eq_true, Bool.not_not]
    refine guardR_may (by simp only [push_cast, hP, hnt, hgw, hgb, Nat.reduceLT, Nat.reduceEqDiff, Nat.reduceAdd, Nat.reduceSub, Nat.reduceMul, Nat.reduceLeDiff, reduceIte, reduceCtorEq, ne_eq, String.reduceEq, not_false_eq_true, Bool.not_not, List.getElem?_cons_zero, List.getElem?_cons_succ]; rfl) ?_
    simp only [push_cast, hP, hnt, hgw, hgb, Nat.reduceLT, Nat.reduceEqDiff, Nat.reduceAdd, Nat.reduceSub, Nat.reduceMul, Nat.reduceLeDiff, reduceIte, reduceCtorEq, ne_eq, String.reduceEq, not_false_eq_true, Bool.not_not]
    refine guardR_may (by simp only [push_cast, hP, hnt, hgw, hgb, Nat.reduceLT, Nat.reduceEqDiff, Nat.reduceAdd, Nat.reduceSub, Nat.reduceMul, Nat.reduceLeDiff, reduceIte, reduceCtorEq, ne_eq, String.reduceEq, not_false_eq_true, Bool.not_not, List.getElem?_cons_zero, List.getElem?_cons_succ]; rfl) ?_
    simp only [push_cast, hP, hnt, hgw, hgb, Nat.reduceLT, Nat.reduceEqDiff, Nat.reduceAdd, Nat.reduceSub, Nat.reduceMul, Nat.reduceLeDiff, reduceIte, reduceCtorEq, ne_eq, String.reduceEq, not_false_eq_true, Bool.not_not]
    refine guardR_may (by simp only [push_cast, hP, hnt, hgw, hgb, Nat.reduceLT, Nat.reduceEqDiff, Nat.reduceAdd, Nat.reduceSub, Nat.reduceMul, Nat.reduceLeDiff, reduceIte, reduceCtorEq, ne_eq, String.reduceEq, not_false_eq_true, Bool.not_not, List.getElem?_cons_zero, List.getElem?_cons_succ]; rfl) ?_
    simp only [push_cast, hP, hnt, hgw, hgb, Nat.reduceLT, Nat.reduceEqDiff, Nat.reduceAdd, Nat.reduceSub, Nat.reduceMul, Nat.reduceLeDiff, reduceIte, reduceCtorEq, ne_eq, String.reduceEq, not_false_eq_true, Bool.not_not]
    refine guardR_may (by simp only [push_cast, hP, hnt, hgw, hgb, Nat.reduceLT, Nat.reduceEqDiff, Nat.reduceAdd, Nat.reduceSub, Nat.reduceMul, Nat.reduceLeDiff, reduceIte, reduceCtorEq, ne_eq, String.reduceEq, not_false_eq_true, Bool.not_not, List.getElem?_cons_zero, List.getElem?_cons_succ]; rfl) ?_
    simp only [push_cast, hP, hnt, hgw, hgb, Nat.reduceLT, Nat.reduceEqDiff, Nat.reduceAdd, Nat.reduceSub, Nat.reduceMul, Nat.reduceLeDiff, reduceIte, reduceCtorEq, ne_eq, String.reduceEq, not_false_eq_true, Bool.not_not]
    refine guardR_may (by simp only [push_cast, hP, hnt, hgw, hgb, Nat.reduceLT, Nat.reduceEqDiff, Nat.reduceAdd, Nat.reduceSub, Nat.reduceMul, Nat.reduceLeDiff, reduceIte, reduceCtorEq, ne_eq, String.reduceEq, not_false_eq_true, Bool.not_not, List.getElem?_cons_zero, List.getElem?_cons_succ]; rfl) ?_
    simp only [push_cast, hP, hnt, hgw, hgb, Nat.reduceLT, Nat.reduceEqDiff, Nat.reduceAdd, Nat.reduceSub, Nat.reduceMul, Nat.reduceLeDiff, reduceIte, reduceCtorEq, ne_eq, String.reduceEq, not_false_eq_true, Bool.not_not]
    refine guardR_may (by simp only [push_cast, hP, hnt, hgw, hgb, Nat.reduceLT, Nat.reduceEqDiff, Nat.reduceAdd, Nat.reduceSub, Nat.reduceMul, Nat.reduceLeDiff, reduceIte, reduceCtorEq, ne_eq, String.reduceEq, not_false_eq_true, Bool.not_not, List.getElem?_cons_zero, List.getElem?_cons_succ]; rfl) ?_
    simp only [push_cast, hP, hnt, hgw, hgb, Nat.reduceLT, Nat.reduceEqDiff, Nat.reduceAdd, Nat.reduceSub, Nat.reduceMul, Nat.reduceLeDiff, reduceIte, reduceCtorEq, ne_eq, String.reduceEq, not_false_eq_true, Bool.not_not]
    refine guardR_may (by simp only [push_cast, hP, hnt, hgw, hgb, Nat.reduceLT, Nat.reduceEqDiff, Nat.reduceAdd, Nat.reduceSub, Nat.reduceMul, Nat.reduceLeDiff, reduceIte, reduceCtorEq, ne_eq, String.reduceEq, not_false_eq_true, Bool.not_not, List.getElem?_cons_zero, List.getElem?_cons_succ]; rfl) ?_
    simp only [push_cast, hP, hnt, hgw, hgb, Nat.reduceLT, Nat.reduceEqDiff, Nat.reduceAdd, Nat.reduceSub, Nat.reduceMul, Nat.reduceLeDiff, reduceIte, reduceCtorEq, ne_eq, String.reduceEq, not_false_eq_true, Bool.not_not]
    refine hK _ ?_; clear hK
    refine vwp_ret ?_
    refine ret_free (by simp only [push_cast, hP, hnt, hgw, hgb, Nat.reduceLT, Nat.reduceEqDiff, Nat.reduceAdd, Nat.reduceSub, Nat.reduceMul, Nat.reduceLeDiff, reduceIte, reduceCtorEq, ne_eq, String.reduceEq, not_false_eq_true, Bool.not_not]; rfl) (by simp only [push_cast, hP, hnt, hgw, hgb, Nat.reduceLT, Nat.reduceEqDiff, Nat.reduceAdd, Nat.reduceSub, Nat.reduceMul, Nat.reduceLeDiff, reduceIte, reduceCtorEq, ne_eq, String.reduceEq, not_false_eq_true, Bool.not_not]) ?_
    first | (simp only [pack, passesTextsF, rb0, if_true, if_false, Bool.false_eq_true, reduceIte]; done) | (simp only [pack, passesTextsF, hb0, if_true, if_false, ne_eq, not_true_eq_false, not_false_eq_true, true_or, or_true, or_self, ite_self, Bool.true_eq_false, Bool.false_eq_true, or_false, false_or]; done) | (subst_vars; simp only [pack, passesTextsF, *, if_true, if_false, ne_eq, not_true_eq_false, not_false_eq_true, true_or, or_true, or_self, ite_self, Bool.true_eq_false, Bool.false_eq_true, or_false, false_or]; done) | (simp [pack, passesTextsF, hb0] <;> omega)
end Go.Vm
