/-
  Walks of the program's functions by the framework, and what they compute (PtAM). Conditions: each theorem's own premises. By an AI agent.
-/
import Derived.Test.YtnpbndglolcilaaDoorPtAL
import Derived.Test.YtnpbndglolcilaaDoorPtAK
section
namespace Go.Vm
open Go Go.RowKit Go.Proofs
set_option maxRecDepth 100000
set_option linter.unusedSimpArgs false
set_option linter.unusedVariables false
set_option maxHeartbeats 4000000

theorem indexOne_call (gw : World) (gb : Nat) (s : ByteArray) (c : UInt8) : VCall Tryd.prog gw gb 101 [.one (.c (.string s)), .one (.c (.string ⟨#[c]⟩))] (.one (.c (.int .i64 (Lib.indexByte s.data.toList c)))) [] :=
  vcall_plain (callable_of Tryd.func101 rfl rfl) [.string s, .string ⟨#[c]⟩] _ fun w _ => (Tryd.strings_Index_one s c w).mono fun e w' ⟨he, hw⟩ => ⟨_, he, hw ▸ Below.refl _ _, fun F => by simp only [repV, rep]; exact ⟨trivial, rfl⟩⟩

theorem wrap_id {n : Int} (h0 : 0 ≤ n) (hn : n ≤ 9223372036854775807) : IntKind.wrap .i64 n = n := by
  rw [IntKind.wrap_i64]; omega
theorem load_string {P : Program} {n : Nat} {yv : Value} {bs : List Nat} {cs : List (TypeId × List Value)} {a : Act} {w : World} (h : At n yv bs cs a w) {j g : Nat} {ty : TypeId} {v : Value} (hj : bs[j]? = some g) (hc : cs[j]? = some (ty, [v]))
    {t : TypeId} {d : Option Nat} {ty' : TypeId} {pos : String} {af : Array Edge} {gd : Option (Nat × Bool)} (hagg : isAggT P t = some false) : (execOp a.eval ⟨d, .load t (.tmp (j + 1)), ty', pos, af, gd⟩).run P w = .ok (.value v) w := by
  have h1 := eval_get (h.cap j g hj)
  have h2 := h.cell j g _ hj hc
  have h3 : w.cell? ⟨g, 0, none⟩ = some v := by simp [World.cell?, h2]
  simp [execOp, h1, Instr.loadAt, Instr.sureAddr, asAddr, loadVar, run_isAgg' hagg, h3]
theorem move_run {P : Program} {a : Act} {w : World} {x : Operand} {v : Value} (h : a.eval x = v) {d : Option Nat} {ty' : TypeId} {pos : String} {af : Array Edge} {gd : Option (Nat × Bool)} : (execOp a.eval ⟨d, .move x, ty', pos, af, gd⟩).run P w = .ok (.value v) w := by subst h; rfl
theorem not_run {P : Program} {a : Act} {w : World} {x : Operand} {b : Bool} (h : a.eval x = .bool b) {t : TypeId} {d : Option Nat} {ty' : TypeId} {pos : String} {af : Array Edge} {gd : Option (Nat × Bool)} : (execOp a.eval ⟨d, .unOp .not t x, ty', pos, af, gd⟩).run P w = .ok (.value (.bool !b)) w := by simp [execOp, h, Op.unary]
theorem splitIter (gw : World) (gb : Nat) (s : ByteArray) (c : UInt8) (hs : s.size ≤ 1000000000) :
    VIter Tryd.prog gw gb 102 [(9, [.string ⟨#[c]⟩]), (9, [.string s]), (3, [.int .i64 0])] ((piecesB s c).map fun p => [Value.string p]) := by
  refine ⟨callable_of Tryd.func102 rfl rfl, fun x hx v hv => ?_, ?_⟩
  · obtain ⟨p, _, rfl⟩ := List.mem_map.1 hx
    simp only [List.mem_singleton] at hv
    subst hv; rfl
  intro w bs l J Jx Y0 hgb hgl hlen hnd hcell hbs hl hgbl hY hst hstx hrd hJ0
  match bs, hlen with
  | [b0, b1, b2], _ =>
  refine callsIn_of_wp Tryd.func102 rfl trivial ?_
  rw [Tryd.ntmps102]
  have hA : At 52 (.func (.yield l) #[] #[]) [b0, b1, b2] [(9, [.string ⟨#[c]⟩]), (9, [.string s]), (3, [.int .i64 0])] { tmps := #[.func (.yield l) #[] #[]] ++ ([b0, b1, b2].map fun g => Value.pointer (some ⟨g, 0, none⟩)).toArray ++ Array.replicate (52 - (#[Value.func (.yield l) #[] #[]] ++ ([b0, b1, b2].map fun g => Value.pointer (some ⟨g, 0, none⟩)).toArray).size) undef, defers := [] } w := by
    refine ⟨by simp, rfl, by simp, rfl, fun j g hj => ?_, hcell, ?_, rfl, hnd, by simp⟩
    · have hj' := (List.getElem?_eq_some_iff.1 hj).1
      have : j = 0 ∨ j = 1 ∨ j = 2 := by simp at hj'; omega
      rcases this with rfl | rfl | rfl <;> (simp at hj; subst hj; simp)
    · simp [Value.oneCell']
  generalize ({ tmps := _, defers := [] } : Act) = a0 at hA ⊢
  have hsz1 : (⟨#[c]⟩ : ByteArray).size = 1 := rfl
  have hbs' : ∀ g ∈ [b0, b1, b2], gb ≤ g := fun g hg => (hbs g hg).1
  refine wpIn_seq_k fun K hK => ?_
  refine wpIn_seq_k fun K2 hK2 => ?_
  refine hA.region (d0 := (9, [.string ⟨#[c]⟩])) (d1 := (9, [.string s])) (d2 := (3, [.int .i64 0])) hbs' hgb hgl rfl [] [(11, .bool false)] (by simp) (by simp [Value.oneCell']) (fun C hP hnt hgw hgb => ?_) (fun a1 w1 hA1 hT1 hv1 => ?_)
  · simp (dsimp := false) only [push_cast, hP, hnt, hgw, hgb, Nat.reduceLT, Nat.reduceEqDiff, Nat.reduceAdd, Nat.reduceSub, Nat.reduceMul, Nat.reduceLeDiff, ↓reduceIte, reduceCtorEq, List.map_cons, List.map_nil]
    simp [K3, upd, hsz1]
  have hc1 := eval_get (hv1 (11, .bool false) (by simp))
  refine hK2 _ _ (wpIn_cond_false hc1 (wpIn_skip (hK _ _ ?_)))
  clear hK hK2 K K2
  -- behind each step of the iterator's own
  have hglT : ∀ {W W' : World}, (∀ g, g < gb → W.heap[g]? = gw.heap[g]?) → gb ≤ W.heap.size → Turned (· ∈ [b0, b1, b2]) W W' → ∀ g, g < gb → W'.heap[g]? = gw.heap[g]? := fun h hle hT g hg =>
    (hT.heap g (by omega) fun hm => by have := hbs' g hm; omega).trans (h g hg)
  have hstep : ∀ {k Y W W'}, J k Y W → Turned (· ∈ [b0, b1, b2]) W W' → J k Y W' := fun hj hT => hst _ _ _ _ hj ⟨hT.os, hT.tape, hT.output, hT.size, fun g hg hn => hT.heap g hg fun hm => hn (.inl hm)⟩
  have hbl : ∀ {W : World} {k Y}, J k Y W → ∀ g ∈ [b0, b1, b2], ¬ (Y g ∨ g = l) := by
    intro W k Y hj g hg hn
    rcases hn with hn | hn
    · exact (hY k Y W hj g hn).2.1 hg
    · exact (hbs g hg).2.2 hn
  have hglY : ∀ {W W' : World} {k Y}, J k Y W → (∀ g, g < gb → W.heap[g]? = gw.heap[g]?) → gb ≤ W.heap.size → Turned (fun g => Y g ∨ g = l) W W' → ∀ g, g < gb → W'.heap[g]? = gw.heap[g]? := fun hj h hle hT g hg =>
    (hT.heap g (by omega) fun hm => by
      rcases hm with hm | hm
      · have := (hY _ _ _ hj g hm).2.2; omega
      · omega).trans (h g hg)
  refine wpIn_seq_k fun K hK => ?_
  refine wpIn_block (wpIn_loop_n (fun m a w' => ∃ k Y sk pre, m = sk.size ∧ sk.size ≤ s.size ∧ piecesB s c = pre ++ piecesB sk c ∧ pre.length = k ∧ J k Y w' ∧ At 52 (.func (.yield l) #[] #[]) [b0, b1, b2] [(9, [.string ⟨#[c]⟩]), (9, [.string sk]), (3, [.int .i64 0])] a w' ∧ w.heap.size ≤ w'.heap.size ∧ ∀ g, g < gb → w'.heap[g]? = gw.heap[g]?) s.size
    ⟨0, Y0, s, [], rfl, Nat.le_refl _, rfl, rfl, hstep hJ0 hT1, hA1, hT1.size, hglT hgl hgb hT1⟩ ?_)
  rintro m a2 w2 ⟨k, Y, sk, pre, rfl, hsk, hpre, hk, hJ, hA2, hbig2, hgl2⟩
  refine wpIn_block (wpIn_seq_k fun K3' hK3 => ?_)
  refine hA2.region (d0 := (9, [.string ⟨#[c]⟩])) (d1 := (9, [.string sk])) (d2 := (3, [.int .i64 0])) hbs' (by omega) hgl2 rfl [] [(7, .int .i64 (Lib.indexByte sk.data.toList c))] (by simp) (by simp [Value.oneCell']) (fun C hP hnt hgw hgb => ?_) (fun a3 w3 hA3 hT3 hv3 => ?_)
  · simp (dsimp := false) only [push_cast, hP, hnt, hgw, hgb, Nat.reduceLT, Nat.reduceEqDiff, Nat.reduceAdd, Nat.reduceSub, Nat.reduceMul, Nat.reduceLeDiff, ↓reduceIte, reduceCtorEq, List.map_cons, List.map_nil]
    refine .inl (callE_intro (indexOne_call gw gb sk c) (.inl ⟨rfl, rfl⟩) ?_)
    simp (dsimp := false) only [push_cast, hP, hnt, hgw, hgb, Nat.reduceLT, Nat.reduceEqDiff, Nat.reduceAdd, Nat.reduceSub, Nat.reduceMul, Nat.reduceLeDiff, ↓reduceIte, reduceCtorEq, List.map_cons, List.map_nil]
    simp [K3, upd]
  refine hK3 _ _ (wpIn_seq_k fun K4 hK4 => wpIn_seq_k fun K5 hK5 => ?_)
  have hgl3 := hglT hgl2 (by omega) hT3
  have hbig3 := hT3.size
  have hJ3 := hstep hJ hT3
  refine hA3.region (d0 := (9, [.string ⟨#[c]⟩])) (d1 := (9, [.string sk])) (d2 := (3, [.int .i64 0])) hbs' (by omega) hgl3 rfl [(7, .int .i64 (Lib.indexByte sk.data.toList c))] [(7, .int .i64 (Lib.indexByte sk.data.toList c)), (33, .bool (decide (Lib.indexByte sk.data.toList c < 0)))]
    (by intro e he; simp only [List.mem_singleton] at he; subst he; exact ⟨hv3 _ (by simp), rfl⟩) (by simp [Value.oneCell']) (fun C hP hnt hgw hgb => ?_) (fun a4 w4 hA4 hT4 hv4 => ?_)
  · simp (dsimp := false) only [push_cast, hP, hnt, hgw, hgb, Nat.reduceLT, Nat.reduceEqDiff, Nat.reduceAdd, Nat.reduceSub, Nat.reduceMul, Nat.reduceLeDiff, ↓reduceIte, reduceCtorEq, List.map_cons, List.map_nil]
    simp [K3, upd]
  refine hK5 _ _ ?_
  have hgl4 := hglT hgl3 (by omega) hT4
  have hbig4 := hT4.size
  have hJ4 := hstep hJ3 hT4
  refine wpIn_cond_split (eval_get (hv4 (33, .bool (decide (Lib.indexByte sk.data.toList c < 0))) (by simp))) (fun hneg => ?_) (fun hneg => ?_)
  · -- nothing more: the last part
    have hneg : Lib.indexByte sk.data.toList c < 0 := by simpa using hneg
    refine wpIn_exit ?_
    simp only [Exit.then, Exit.inBlock, reduceCtorEq, if_true, if_false, Nat.reduceEqDiff]
    refine hK _ _ ?_
    have hpm := pieces_miss hneg
    have hxk : ((piecesB s c).map fun p => [Value.string p])[k]? = some [.string sk] := by rw [hpre, hpm]; simp [← hk]
    have hxl : ((piecesB s c).map fun p => [Value.string p]).length = k + 1 := by rw [hpre, hpm]; simp [hk]
    refine wpIn_region_list ?_
    refine wpListIn_plain rfl fun K6 hK6 => ?_
    refine value_wpIn (x := .func (.yield l) #[] #[]) (fun c h => by cases h) (move_run (eval_get hA4.y)) (hK6 _ _ ?_)
    refine wpListIn_plain rfl fun K7 hK7 => ?_
    have hA5 := hA4.put (d := 49) (v := .func (.yield l) #[] #[]) (by simp)
    refine value_wpIn (x := .string sk) (fun c h => by cases h) (load_string hA5 (j := 1) (g := b1) rfl rfl (by rfl) ) (hK7 _ _ ?_)
    refine wpListIn_plain rfl fun K8 hK8 => ?_
    have hs5 := hA4.size
    have hs6 := hA5.size
    have hY5 := hrd k Y w4 [.string sk] hxk hJ4 (by omega)
    refine yield_wpIn (l := l) (by rw [eval_put_ne (by omega), eval_put_same (by omega)]) (by rw [eval_put_same (by simp [Act.put, hs5])]; exact hY5) fun e w5 he => ?_
    obtain ⟨hT5, Y', hY', he⟩ := he
    rcases he with ⟨rfl, hj⟩ | ⟨rfl, hj⟩
    · exact ⟨_, rfl, hK8 _ _ (wpListIn_nil (bodyPost_end (results_none rfl _ _ _) hA4.defs ⟨⟨_, rfl⟩, .inl ⟨Y', by rw [hxl]; exact hj⟩⟩))⟩
    · exact ⟨_, rfl, hK8 _ _ (wpListIn_nil (bodyPost_end (results_none rfl _ _ _) hA4.defs ⟨⟨_, rfl⟩, .inr ⟨_, Y', hj⟩⟩))⟩
  · have hpos : 0 ≤ Lib.indexByte sk.data.toList c := by simpa using hneg
    refine wpIn_skip (hK4 _ _ (wpIn_seq_k fun K6 hK6 => ?_))
    obtain ⟨x, r, hsx, hxc, hix⟩ := indexByte_hit c _ hpos
    generalize hidx : Lib.indexByte sk.data.toList c = idx at *
    have hsz : (idx : Int) < sk.size := by rw [size_list, hsx, List.length_append, List.length_cons, hix]; omega
    have hw0 : IntKind.wrap .i64 (idx + 0) = idx := by rw [Int.add_zero]; exact wrap_id hpos (by omega)
    refine hA4.region (d0 := (9, [.string ⟨#[c]⟩])) (d1 := (9, [.string sk])) (d2 := (3, [.int .i64 0])) hbs' (by omega) hgl4 rfl [(7, .int .i64 idx)] [(7, .int .i64 idx), (8, .string (bOf x))]
      (by intro e he; simp only [List.mem_singleton] at he; subst he; exact ⟨hv4 _ (by simp), rfl⟩) (by simp [Value.oneCell']) (fun C hP hnt hgw hgb => ?_) (fun a5 w5 hA5 hT5 hv5 => ?_)
    · have hcond : (0 : Int) ≤ 0 ∧ 0 ≤ idx ∧ idx ≤ (sk.size : Int) := ⟨Int.le_refl _, hpos, by omega⟩
      have hext : sk.extract (Int.toNat 0) idx.toNat = bOf x := by
        refine bOf_ext ?_
        rw [ext_data, hsx, hix]; simp
      simp (dsimp := false) only [push_cast, hP, hnt, hgw, hgb, Nat.reduceLT, Nat.reduceEqDiff, Nat.reduceAdd, Nat.reduceSub, Nat.reduceMul, Nat.reduceLeDiff, ↓reduceIte, reduceCtorEq, List.map_cons, List.map_nil, hw0, if_pos hcond, hext]
      simp [K3, upd]
    refine hK6 _ _ (wpIn_seq_k fun K7 hK7 => wpIn_seq_k fun K8 hK8 => ?_)
    have hgl5 := hglT hgl4 (by omega) hT5
    have hbig5 := hT5.size
    have hJ5 := hstep hJ4 hT5
    have hpm := pieces_hit hsx hxc
    have hxk : ((piecesB s c).map fun p => [Value.string p])[k]? = some [.string (bOf x)] := by rw [hpre, hpm]; simp [← hk]
    have hs5 := hA5.size
    refine wpIn_region_list ?_
    refine wpListIn_plain rfl fun K9 hK9 => ?_
    refine value_wpIn (x := .func (.yield l) #[] #[]) (fun c h => by cases h) (move_run (eval_get hA5.y)) (hK9 _ _ ?_)
    refine wpListIn_plain rfl fun K10 hK10 => ?_
    refine value_wpIn (x := .string (bOf x)) (fun c h => by cases h) (move_run (by rw [eval_put_ne (by omega)]; exact eval_get (hv5 (8, .string (bOf x)) (by simp)))) (hK10 _ _ ?_)
    refine wpListIn_plain rfl fun K11 hK11 => ?_
    have hY5 := hrd k Y w5 [.string (bOf x)] hxk hJ5 (by omega)
    refine yield_wpIn (l := l) (by rw [eval_put_ne (by omega), eval_put_same (by omega)]) (by rw [eval_put_same (by simp [Act.put, hs5])]; exact hY5) fun e w6 he => ?_
    obtain ⟨hT6, Y', hY', he⟩ := he
    have hgo : ∃ v b, e = .returned v ∧ v = .bool b ∧ ((b = true ∧ J (k + 1) Y' w6) ∨ (b = false ∧ Jx (k + 1) Y' w6)) := by
      rcases he with ⟨rfl, hj⟩ | ⟨rfl, hj⟩
      · exact ⟨_, true, rfl, rfl, .inl ⟨rfl, hj⟩⟩
      · exact ⟨_, false, rfl, rfl, .inr ⟨rfl, hj⟩⟩
    obtain ⟨v, b, rfl, rfl, he⟩ := hgo
    refine ⟨_, rfl, hK11 _ _ ?_⟩
    refine wpListIn_plain rfl fun K12 hK12 => ?_
    refine value_wpIn (x := .bool !b) (fun c h => by cases h) (not_run (eval_put_same (by simp [Act.put, hs5]))) (hK12 _ _ (wpListIn_nil ?_))
    refine hK8 _ _ ?_
    have hA6 : At 52 (.func (.yield l) #[] #[]) [b0, b1, b2] [(9, [.string ⟨#[c]⟩]), (9, [.string sk]), (3, [.int .i64 0])] ((((a5.put (some 39) (.func (.yield l) #[] #[])).put (some 40) (.string (bOf x))).put (some 41) (.bool b)).put (some 42) (.bool !b)) w6 :=
      ((((hA5.world hT6 (fun g hg => hbl hJ5 g hg)).put (by simp)).put (by simp)).put (by simp)).put (by simp)
    refine wpIn_cond_split (eval_put_same (by simp [Act.put, hs5])) (fun hb => ?_) (fun hb => ?_)
    · refine wpIn_ret ?_
      simp only [Exit.then, Exit.inBlock]
      have hb : b = false := by simpa using hb
      subst hb
      rcases he with ⟨hb, _⟩ | ⟨_, hj⟩
      · cases hb
      · exact bodyPost_ret (results_none rfl _ _ _) hA6.defs ⟨⟨_, rfl⟩, .inr ⟨_, Y', hj⟩⟩
    · have hb : b = true := by simpa using hb
      subst hb
      rcases he with ⟨_, hj⟩ | ⟨hb, _⟩
      · refine wpIn_skip (hK7 _ _ ?_)
        have hgl6 := hglY hJ5 hgl5 (by omega) hT6
        have hbig6 := hT6.size
        have hw1 : IntKind.wrap .i64 (idx + 1) = idx + 1 := wrap_id (by omega) (by omega)
        refine hA6.region (d0 := (9, [.string ⟨#[c]⟩])) (d1 := (9, [.string (bOf r)])) (d2 := (3, [.int .i64 0])) hbs' (by omega) hgl6 rfl [(7, .int .i64 idx)] []
          (by intro e he; simp only [List.mem_singleton] at he; subst he; exact ⟨by simp only [Act.put]; rw [Array.getElem?_setIfInBounds_ne (by omega), Array.getElem?_setIfInBounds_ne (by omega), Array.getElem?_setIfInBounds_ne (by omega), Array.getElem?_setIfInBounds_ne (by omega)]; exact hv5 (7, .int .i64 idx) (by simp), rfl⟩) (by simp [Value.oneCell']) (fun C hP hnt hgw hgb => ?_) (fun a7 w7 hA7 hT7 hv7 => ?_)
        · have hsz1' : (((⟨#[c]⟩ : ByteArray).size : Nat) : Int) = 1 := rfl
          have hcond : (0 : Int) ≤ idx + 1 ∧ idx + 1 ≤ (sk.size : Int) ∧ (sk.size : Int) ≤ (sk.size : Int) := ⟨by omega, by omega, Int.le_refl _⟩
          have hext : sk.extract (idx + 1).toNat sk.size = bOf r := by
            refine bOf_ext ?_
            rw [ext_data, hsx, size_list, hsx, hix, show ((x.length : Int) + 1).toNat = x.length + 1 by omega]
            simp only [List.drop_append, List.length_append, List.length_cons]
            rw [List.drop_eq_nil_of_le (by omega), show x.length + 1 - x.length = 1 by omega, show x.length + (r.length + 1) - (x.length + 1) = r.length by omega]
            simp
          simp (dsimp := false) only [push_cast, hP, hnt, hgw, hgb, Nat.reduceLT, Nat.reduceEqDiff, Nat.reduceAdd, Nat.reduceSub, Nat.reduceMul, Nat.reduceLeDiff, ↓reduceIte, reduceCtorEq, List.map_cons, List.map_nil, hsz1', hw1, if_pos hcond, hext]
          simp [K3, upd]
        simp only [Exit.then, Exit.inBlock]
        have hgl7 := hglT hgl6 (by omega) hT7
        have hbig7 := hT7.size
        refine ⟨(bOf r).size, ?_, k + 1, Y', bOf r, pre ++ [bOf x], rfl, ?_, by rw [hpre, hpm]; simp, by simp [hk], hstep hj hT7, hA7, by omega, hgl7⟩
        · rw [size_list sk, hsx, bOf_size, List.length_append, List.length_cons]; omega
        · have h1 := hsk
          rw [size_list sk, hsx, List.length_append, List.length_cons] at h1
          rw [bOf_size]; omega
      · cases hb
end Go.Vm
end

section
namespace Go.Vm
open Go Go.RowKit Go.Proofs
set_option maxRecDepth 100000
set_option linter.unusedSimpArgs false
set_option linter.unusedVariables false
set_option maxHeartbeats 4000000

def cutN (s : ByteArray) : ByteArray := cutL s colon
def cutR (s : ByteArray) : ByteArray := cutT s colon
theorem cutR_size (s : ByteArray) : (cutR s).size ≤ s.size := by
  unfold cutR cutT
  rw [bOf_size, size_list s]
  unfold Lib.cut
  split
  · simp
  · simp
def readF (s : ByteArray) : ByteArray × Int × Int :=
  if (textF (cutN s) (atoiV (cutR s))).2 ≠ 0 ∨ (textF (cutN s) (atoiV (cutR s))).1.toList ≠ s.toList then (⟨#[]⟩, 0, 12) else (cutN s, atoiV (cutR s), 0)

theorem read_call (gw : World) (hg : Glob gw) (s : ByteArray) (hs : s.size ≤ 100000) : VCall Tryd.prog gw (gw.heap.size) 10 [.one (.c (.string s))] (.tup [.agg [.c (.string (readF s).1), .c (.int .i64 (readF s).2.1)], .one (.c (.int .i64 (readF s).2.2))]) [] := by
  have hcl : (⟨#[58]⟩ : ByteArray) = colon := rfl
  have hc1 : cutL s colon = cutN s := rfl
  have hc2 : cutT s colon = cutR s := rfl
  refine vcall_of [.cell 2 23, .tmp 3] Tryd.func10 rfl rfl Tryd.ntmps10 rfl (by simp) ?_
  intro C hP hnt hgw hgb hfull
  refine vwp_seq_region rfl fun K hK => ?_
  simp (dsimp := false) only [push_cast, hP, hnt, hgw, hgb, Nat.reduceLT, Nat.reduceEqDiff, Nat.reduceAdd, Nat.reduceSub, Nat.reduceMul, Nat.reduceLeDiff, ↓reduceIte, reduceCtorEq, hcl, hc1, hc2]
  refine hK _ ?_; clear hK
  refine vwp_seq_region rfl fun K hK => ?_
  simp (dsimp := false) only [push_cast, hP, hnt, hgw, hgb, Nat.reduceLT, Nat.reduceEqDiff, Nat.reduceAdd, Nat.reduceSub, Nat.reduceMul, Nat.reduceLeDiff, ↓reduceIte, reduceCtorEq, hcl, hc1, hc2]
  refine .inl (callE_intro (cutS_call gw hg s colon hs) (.inl ⟨rfl, rfl⟩) ?_)
  simp (dsimp := false) only [push_cast, hP, hnt, hgw, hgb, Nat.reduceLT, Nat.reduceEqDiff, Nat.reduceAdd, Nat.reduceSub, Nat.reduceMul, Nat.reduceLeDiff, ↓reduceIte, reduceCtorEq, hcl, hc1, hc2]
  refine hK _ ?_; clear hK
  refine vwp_seq_region rfl fun K hK => ?_
  simp (dsimp := false) only [push_cast, hP, hnt, hgw, hgb, Nat.reduceLT, Nat.reduceEqDiff, Nat.reduceAdd, Nat.reduceSub, Nat.reduceMul, Nat.reduceLeDiff, ↓reduceIte, reduceCtorEq, hcl, hc1, hc2]
  refine hK _ ?_; clear hK
  refine vwp_seq_region rfl fun K hK => ?_
  simp (dsimp := false) only [push_cast, hP, hnt, hgw, hgb, Nat.reduceLT, Nat.reduceEqDiff, Nat.reduceAdd, Nat.reduceSub, Nat.reduceMul, Nat.reduceLeDiff, ↓reduceIte, reduceCtorEq, hcl, hc1, hc2]
  refine .inl (callE_intro (atoi_call gw hg (cutR s) (by have := cutR_size s; omega)) (.inl ⟨atoiE_strict _, rfl⟩) ?_)
  simp (dsimp := false) only [push_cast, hP, hnt, hgw, hgb, Nat.reduceLT, Nat.reduceEqDiff, Nat.reduceAdd, Nat.reduceSub, Nat.reduceMul, Nat.reduceLeDiff, ↓reduceIte, reduceCtorEq, hcl, hc1, hc2]
  refine hK _ ?_; clear hK
  refine vwp_seq fun K hK => ?_
  refine vwp_seq_region rfl fun K hK => ?_
  simp (dsimp := false) only [push_cast, hP, hnt, hgw, hgb, Nat.reduceLT, Nat.reduceEqDiff, Nat.reduceAdd, Nat.reduceSub, Nat.reduceMul, Nat.reduceLeDiff, ↓reduceIte, reduceCtorEq, hcl, hc1, hc2]
  refine .inl (callE_intro (text_call gw gw.heap.size _ _) (.inl ⟨rfl, rfl⟩) ?_)
  simp (dsimp := false) only [push_cast, hP, hnt, hgw, hgb, Nat.reduceLT, Nat.reduceEqDiff, Nat.reduceAdd, Nat.reduceSub, Nat.reduceMul, Nat.reduceLeDiff, ↓reduceIte, reduceCtorEq, hcl, hc1, hc2]
  refine hK _ ?_; clear hK
  refine vwp_seq_regionG fun K hK => ?_
  simp (dsimp := false) only [push_cast, hP, hnt, hgw, hgb, Nat.reduceLT, Nat.reduceEqDiff, Nat.reduceAdd, Nat.reduceSub, Nat.reduceMul, Nat.reduceLeDiff, ↓reduceIte, reduceCtorEq, hcl, hc1, hc2]
  refine guardR_may (by simp (dsimp := false) only [push_cast, hP, hnt, hgw, hgb, Nat.reduceLT, Nat.reduceEqDiff, Nat.reduceAdd, Nat.reduceSub, Nat.reduceMul, Nat.reduceLeDiff, ↓reduceIte, reduceCtorEq, hcl, hc1, hc2, List.getElem?_cons_zero, List.getElem?_cons_succ]; rfl) ?_
  simp (dsimp := false) only [push_cast, hP, hnt, hgw, hgb, Nat.reduceLT, Nat.reduceEqDiff, Nat.reduceAdd, Nat.reduceSub, Nat.reduceMul, Nat.reduceLeDiff, ↓reduceIte, reduceCtorEq, hcl, hc1, hc2]
  refine guardR_may (by simp (dsimp := false) only [push_cast, hP, hnt, hgw, hgb, Nat.reduceLT, Nat.reduceEqDiff, Nat.reduceAdd, Nat.reduceSub, Nat.reduceMul, Nat.reduceLeDiff, ↓reduceIte, reduceCtorEq, hcl, hc1, hc2, List.getElem?_cons_zero, List.getElem?_cons_succ]; rfl) ?_
  simp (dsimp := false) only [push_cast, hP, hnt, hgw, hgb, Nat.reduceLT, Nat.reduceEqDiff, Nat.reduceAdd, Nat.reduceSub, Nat.reduceMul, Nat.reduceLeDiff, ↓reduceIte, reduceCtorEq, hcl, hc1, hc2]
  refine guardR_may (by simp (dsimp := false) only [push_cast, hP, hnt, hgw, hgb, Nat.reduceLT, Nat.reduceEqDiff, Nat.reduceAdd, Nat.reduceSub, Nat.reduceMul, Nat.reduceLeDiff, ↓reduceIte, reduceCtorEq, hcl, hc1, hc2, List.getElem?_cons_zero, List.getElem?_cons_succ]; rfl) ?_
  simp (dsimp := false) only [push_cast, hP, hnt, hgw, hgb, Nat.reduceLT, Nat.reduceEqDiff, Nat.reduceAdd, Nat.reduceSub, Nat.reduceMul, Nat.reduceLeDiff, ↓reduceIte, reduceCtorEq, hcl, hc1, hc2]
  refine hK _ ?_; clear hK
  refine vwp_cond (b := _) (by simp (dsimp := false) only [push_cast, hP, hnt, hgw, hgb, Nat.reduceLT, Nat.reduceEqDiff, Nat.reduceAdd, Nat.reduceSub, Nat.reduceMul, Nat.reduceLeDiff, ↓reduceIte, reduceCtorEq, hcl, hc1, hc2]; rfl) (fun rb0 => ?_) (fun rb0 => ?_)
  · have hb0 := rb0
    try simp only [beq_iff_eq, bne_iff_ne, ne_eq, bne_eq_false_iff_eq, beq_eq_false_iff_ne, decide_eq_true_eq, decide_eq_false_iff_not, Bool.not_eq_true', Bool.not_eq_false', Bool.or_eq_true, Bool.and_eq_true, Bool.or_eq_false_iff, Bool.and_eq_false_iff] at hb0
    refine vwp_seq_region rfl fun K hK => ?_
    simp (dsimp := false) only [push_cast, hP, hnt, hgw, hgb, Nat.reduceLT, Nat.reduceEqDiff, Nat.reduceAdd, Nat.reduceSub, Nat.reduceMul, Nat.reduceLeDiff, ↓reduceIte, reduceCtorEq, hcl, hc1, hc2]
    refine hK _ ?_; clear hK
    refine vwp_ret ?_
    refine ret_free (by simp (dsimp := false) only [push_cast, hP, hnt, hgw, hgb, Nat.reduceLT, Nat.reduceEqDiff, Nat.reduceAdd, Nat.reduceSub, Nat.reduceMul, Nat.reduceLeDiff, ↓reduceIte, reduceCtorEq, hcl, hc1, hc2]; rfl) (by simp (dsimp := false) only [push_cast, hP, hnt, hgw, hgb, Nat.reduceLT, Nat.reduceEqDiff, Nat.reduceAdd, Nat.reduceSub, Nat.reduceMul, Nat.reduceLeDiff, ↓reduceIte, reduceCtorEq, hcl, hc1, hc2]) ?_
    first | (simp only [pack, readF, rb0, if_true, if_false, Bool.false_eq_true, reduceIte]; done) | (simp only [pack, readF, hb0, if_true, if_false, ne_eq, not_true_eq_false, not_false_eq_true, true_or, or_true, or_self, ite_self, Bool.true_eq_false, Bool.false_eq_true, or_false, false_or]; done) | (subst_vars; simp only [pack, readF, *, if_true, if_false, ne_eq, not_true_eq_false, not_false_eq_true, true_or, or_true, or_self, ite_self, Bool.true_eq_false, Bool.false_eq_true, or_false, false_or]; done) | (simp [pack, readF, hb0] <;> omega)
  · have hb0 := rb0
    try simp only [beq_iff_eq, bne_iff_ne, ne_eq, bne_eq_false_iff_eq, beq_eq_false_iff_ne, decide_eq_true_eq, decide_eq_false_iff_not, Bool.not_eq_true', Bool.not_eq_false', Bool.or_eq_true, Bool.and_eq_true, Bool.or_eq_false_iff, Bool.and_eq_false_iff] at hb0
    refine vwp_skip ?_
    apply_assumption
    refine vwp_seq_region rfl fun K hK => ?_
    simp (dsimp := false) only [push_cast, hP, hnt, hgw, hgb, Nat.reduceLT, Nat.reduceEqDiff, Nat.reduceAdd, Nat.reduceSub, Nat.reduceMul, Nat.reduceLeDiff, ↓reduceIte, reduceCtorEq, hcl, hc1, hc2]
    refine hK _ ?_; clear hK
    refine vwp_ret ?_
    refine ret_free (by simp (dsimp := false) only [push_cast, hP, hnt, hgw, hgb, Nat.reduceLT, Nat.reduceEqDiff, Nat.reduceAdd, Nat.reduceSub, Nat.reduceMul, Nat.reduceLeDiff, ↓reduceIte, reduceCtorEq, hcl, hc1, hc2]; rfl) (by simp (dsimp := false) only [push_cast, hP, hnt, hgw, hgb, Nat.reduceLT, Nat.reduceEqDiff, Nat.reduceAdd, Nat.reduceSub, Nat.reduceMul, Nat.reduceLeDiff, ↓reduceIte, reduceCtorEq, hcl, hc1, hc2]) ?_
    first | (simp only [pack, readF, rb0, if_true, if_false, Bool.false_eq_true, reduceIte]; done) | (simp only [pack, readF, hb0, if_true, if_false, ne_eq, not_true_eq_false, not_false_eq_true, true_or, or_true, or_self, ite_self, Bool.true_eq_false, Bool.false_eq_true, or_false, false_or]; done) | (subst_vars; simp only [pack, readF, *, if_true, if_false, ne_eq, not_true_eq_false, not_false_eq_true, true_or, or_true, or_self, ite_self, Bool.true_eq_false, Bool.false_eq_true, or_false, false_or]; done) | (simp [pack, readF, hb0] <;> omega)
end Go.Vm
end

section
namespace Go.Vm
open Go Go.RowKit Go.Proofs
set_option maxRecDepth 100000
set_option linter.unusedSimpArgs false
set_option linter.unusedVariables false
set_option maxHeartbeats 4000000

def firstE (l : List (ByteArray × Int)) : Int :=
  match l with
  | [] => 0
  | p :: l => if checkF p.1 p.2 = 0 then firstE l else checkF p.1 p.2
def checksF (l : List (ByteArray × Int)) : Int := if 10 < l.length then 4 else firstE l
def firstR (l : List (ByteArray × Int)) : Int :=
  match l with
  | [] => 0
  | p :: l => if refCheckF p.1 p.2 = 0 then firstR l else refCheckF p.1 p.2
def checksR (l : List (ByteArray × Int)) : Int := if 10 < l.length then 4 else firstR l
theorem firstE_drop {l : List (ByteArray × Int)} {i : Int} (h0 : 0 ≤ i) (h1 : i < (l.length : Int)) : firstE (l.drop i.toNat) = if checkF (atI l i).1 (atI l i).2 = 0 then firstE (l.drop (i + 1).toNat) else checkF (atI l i).1 (atI l i).2 := by
  rw [drop_atI h0 h1, show (i + 1).toNat = i.toNat + 1 by omega]; rfl
theorem firstR_drop {l : List (ByteArray × Int)} {i : Int} (h0 : 0 ≤ i) (h1 : i < (l.length : Int)) : firstR (l.drop i.toNat) = if refCheckF (atI l i).1 (atI l i).2 = 0 then firstR (l.drop (i + 1).toNat) else refCheckF (atI l i).1 (atI l i).2 := by
  rw [drop_atI h0 h1, show (i + 1).toNat = i.toNat + 1 by omega]; rfl
theorem firstE_end {l : List (ByteArray × Int)} {i : Int} (h1 : ¬ i < (l.length : Int)) : firstE (l.drop i.toNat) = 0 := by
  rw [List.drop_eq_nil_of_le (by omega)]; rfl
theorem firstR_end {l : List (ByteArray × Int)} {i : Int} (h1 : ¬ i < (l.length : Int)) : firstR (l.drop i.toNat) = 0 := by
  rw [List.drop_eq_nil_of_le (by omega)]; rfl
theorem checksF_big {l : List (ByteArray × Int)} (h : 10 < (l.length : Int)) : checksF l = 4 := if_pos (by omega)
theorem checksF_small {l : List (ByteArray × Int)} (h : ¬ 10 < (l.length : Int)) : checksF l = firstE l := if_neg (by omega)
theorem checksR_big {l : List (ByteArray × Int)} (h : 10 < (l.length : Int)) : checksR l = 4 := if_pos (by omega)
theorem checksR_small {l : List (ByteArray × Int)} (h : ¬ 10 < (l.length : Int)) : checksR l = firstR l := if_neg (by omega)
theorem checks_call (gw : World) (gb : Nat) (l : List (ByteArray × Int)) : VCall Tryd.prog gw (gb) 60 [.one (.sl false l.length (l.flatMap fun p => [.c (.string p.1), .c (.int .i64 p.2)]))] (.one (.c (.int .i64 (checksF l)))) [] := by
  refine vcall_of [.tmp 2] Tryd.func60 rfl rfl Tryd.ntmps60 rfl (by simp) ?_
  intro C hP hnt hgw hgb hfull
  refine vwp_seq_region rfl fun K hK => ?_
  simp (dsimp := false) only [push_cast, hP, hnt, hgw, hgb, Nat.reduceLT, Nat.reduceEqDiff, Nat.reduceAdd, Nat.reduceSub, Nat.reduceMul, Nat.reduceLeDiff, ↓reduceIte, reduceCtorEq]
  refine hK _ ?_; clear hK
  refine vwp_seq fun K hK => ?_
  refine vwp_seq_region rfl fun K hK => ?_
  simp (dsimp := false) only [push_cast, hP, hnt, hgw, hgb, Nat.reduceLT, Nat.reduceEqDiff, Nat.reduceAdd, Nat.reduceSub, Nat.reduceMul, Nat.reduceLeDiff, ↓reduceIte, reduceCtorEq]
  refine hK _ ?_; clear hK
  refine vwp_cond (b := _) (by simp (dsimp := false) only [push_cast, hP, hnt, hgw, hgb, Nat.reduceLT, Nat.reduceEqDiff, Nat.reduceAdd, Nat.reduceSub, Nat.reduceMul, Nat.reduceLeDiff, ↓reduceIte, reduceCtorEq]; rfl) (fun rb0 => ?_) (fun rb0 => ?_)
  · have hb0 := rb0
    try simp only [beq_iff_eq, bne_iff_ne, ne_eq, bne_eq_false_iff_eq, beq_eq_false_iff_ne, decide_eq_true_eq, decide_eq_false_iff_not, Bool.not_eq_true', Bool.not_eq_false', Bool.or_eq_true, Bool.and_eq_true, Bool.or_eq_false_iff, Bool.and_eq_false_iff] at hb0
    refine vwp_seq_region rfl fun K hK => ?_
    simp (dsimp := false) only [push_cast, hP, hnt, hgw, hgb, Nat.reduceLT, Nat.reduceEqDiff, Nat.reduceAdd, Nat.reduceSub, Nat.reduceMul, Nat.reduceLeDiff, ↓reduceIte, reduceCtorEq]
    refine hK _ ?_; clear hK
    refine vwp_ret ?_
    refine ret_free (by simp (dsimp := false) only [push_cast, hP, hnt, hgw, hgb, Nat.reduceLT, Nat.reduceEqDiff, Nat.reduceAdd, Nat.reduceSub, Nat.reduceMul, Nat.reduceLeDiff, ↓reduceIte, reduceCtorEq]; rfl) (by simp (dsimp := false) only [push_cast, hP, hnt, hgw, hgb, Nat.reduceLT, Nat.reduceEqDiff, Nat.reduceAdd, Nat.reduceSub, Nat.reduceMul, Nat.reduceLeDiff, ↓reduceIte, reduceCtorEq]) ?_
    rw [checksF_big hb0]; rfl
  · have hb0 := rb0
    try simp only [beq_iff_eq, bne_iff_ne, ne_eq, bne_eq_false_iff_eq, beq_eq_false_iff_ne, decide_eq_true_eq, decide_eq_false_iff_not, Bool.not_eq_true', Bool.not_eq_false', Bool.or_eq_true, Bool.and_eq_true, Bool.or_eq_false_iff, Bool.and_eq_false_iff] at hb0
    refine vwp_skip ?_
    apply_assumption
    refine vwp_seq fun K hK => ?_
    refine vwp_seq_region rfl fun K hK => ?_
    simp (dsimp := false) only [push_cast, hP, hnt, hgw, hgb, Nat.reduceLT, Nat.reduceEqDiff, Nat.reduceAdd, Nat.reduceSub, Nat.reduceMul, Nat.reduceLeDiff, ↓reduceIte, reduceCtorEq]
    refine hK _ ?_; clear hK
    refine vwp_block ?_
    refine vwp_loop (fun m σ => ∃ (i : Int), m = (l.length - i).toNat ∧ ((0 ≤ i) ∧ (i ≤ l.length) ∧ (firstE (l.drop i.toNat) = firstE l)) ∧ σ = St.of [(9, .one (.sl false l.length (l.flatMap fun p => [.c (.string p.1), .c (.int .i64 p.2)]))), (10, .one (.c (.int .i64 l.length))), (11, .one (.c (.int .i64 i)))] [] []) _ ⟨_, ?_, 0, rfl, ?_, rfl⟩ ?_
    · refine wk_conv [] [] (by simp) (by simp) (by decide) ?_ ?_
      · refine hf_cons (by simp (dsimp := false) only [push_cast, ↓reduceIte, Nat.reduceEqDiff, Nat.reduceAdd, reduceCtorEq] <;> rfl) (by repeat' (first | exact ConvVs.nil | exact ConvL.nil | refine ConvV.tup ?_ | refine ConvVs.cons ?_ ?_ | (refine ConvV.self ?_; simp only [push_cast]; done) | refine ConvV.one ?_ | refine ConvV.agg ?_ | (refine ConvL.free ?_; simp only [push_cast]; done) | refine ConvL.append ?_ ?_ | refine ConvL.cons ?_ ?_ | exact Conv.free rfl | exact Conv.nil | (refine Conv.own ?_; simp; done) | (refine Conv.loc ?_; simp; done) | refine Conv.frz (by simp) (by simp (dsimp := false) only [push_cast, ↓reduceIte, Nat.reduceEqDiff, Nat.reduceAdd, reduceCtorEq] <;> rfl) ?_ | refine Conv.sl (by simp) ?_ | refine Conv.fn ?_)) ?_
        refine hf_cons (by simp (dsimp := false) only [push_cast, ↓reduceIte, Nat.reduceEqDiff, Nat.reduceAdd, reduceCtorEq] <;> rfl) (by exact ConvV.self rfl) ?_
        refine hf_cons (by simp (dsimp := false) only [push_cast, ↓reduceIte, Nat.reduceEqDiff, Nat.reduceAdd, reduceCtorEq] <;> rfl) (by exact ConvV.self rfl) ?_
        exact hf_nil
      · exact hh_nil
    · exact ⟨by omega, by omega, rfl⟩
    · rintro m τ ⟨i, hm, ⟨hi0, hi1, hi2⟩, rfl⟩ K hL0
      have hw := fun h : i < (l.length : Int) => wrap_next hi0 h (by omega)
      have hd := fun h : i < (l.length : Int) => dropI_two (fun p : ByteArray × Int => PC.c (Value.string p.1)) (fun p : ByteArray × Int => PC.c (Value.int .i64 p.2)) hi0 h
      refine vwp_seq_region rfl fun K hK => ?_
      simp (dsimp := false) only [push_cast, hP, hnt, hgw, hgb, Nat.reduceLT, Nat.reduceEqDiff, Nat.reduceAdd, Nat.reduceSub, Nat.reduceMul, Nat.reduceLeDiff, ↓reduceIte, reduceCtorEq, hi0]
      refine hK _ ?_; clear hK
      refine vwp_seq fun K hK => ?_
      refine vwp_cond (b := _) (by simp (dsimp := false) only [push_cast, hP, hnt, hgw, hgb, Nat.reduceLT, Nat.reduceEqDiff, Nat.reduceAdd, Nat.reduceSub, Nat.reduceMul, Nat.reduceLeDiff, ↓reduceIte, reduceCtorEq, hi0]; rfl) (fun rb1 => ?_) (fun rb1 => ?_)
      · have hb1 := rb1
        try simp only [beq_iff_eq, bne_iff_ne, ne_eq, bne_eq_false_iff_eq, beq_eq_false_iff_ne, decide_eq_true_eq, decide_eq_false_iff_not, Bool.not_eq_true', Bool.not_eq_false', Bool.or_eq_true, Bool.and_eq_true, Bool.or_eq_false_iff, Bool.and_eq_false_iff] at hb1
        have hw := hw hb1
        have hd := hd hb1
        refine vwp_skip ?_
        apply_assumption
        refine vwp_seq fun K hK => ?_
        refine vwp_block ?_
        refine vwp_seq_region rfl fun K hK => ?_
        simp (dsimp := false) only [push_cast, hP, hnt, hgw, hgb, Nat.reduceLT, Nat.reduceEqDiff, Nat.reduceAdd, Nat.reduceSub, Nat.reduceMul, Nat.reduceLeDiff, ↓reduceIte, reduceCtorEq, hi0, hw, hd, hb1]
        refine hK _ ?_; clear hK
        refine vwp_seq_region rfl fun K hK => ?_
        simp (dsimp := false) only [push_cast, hP, hnt, hgw, hgb, Nat.reduceLT, Nat.reduceEqDiff, Nat.reduceAdd, Nat.reduceSub, Nat.reduceMul, Nat.reduceLeDiff, ↓reduceIte, reduceCtorEq, hi0, hw, hd, hb1]
        refine .inl (callE_intro (check_call gw gb _ _) (.inl ⟨rfl, rfl⟩) ?_)
        simp (dsimp := false) only [push_cast, hP, hnt, hgw, hgb, Nat.reduceLT, Nat.reduceEqDiff, Nat.reduceAdd, Nat.reduceSub, Nat.reduceMul, Nat.reduceLeDiff, ↓reduceIte, reduceCtorEq, hi0, hw, hd, hb1]
        refine hK _ ?_; clear hK
        refine vwp_seq_region rfl fun K hK => ?_
        simp (dsimp := false) only [push_cast, hP, hnt, hgw, hgb, Nat.reduceLT, Nat.reduceEqDiff, Nat.reduceAdd, Nat.reduceSub, Nat.reduceMul, Nat.reduceLeDiff, ↓reduceIte, reduceCtorEq, hi0, hw, hd, hb1]
        refine hK _ ?_; clear hK
        refine vwp_cond (b := _) (by simp (dsimp := false) only [push_cast, hP, hnt, hgw, hgb, Nat.reduceLT, Nat.reduceEqDiff, Nat.reduceAdd, Nat.reduceSub, Nat.reduceMul, Nat.reduceLeDiff, ↓reduceIte, reduceCtorEq, hi0, hw, hd, hb1]; rfl) (fun rb2 => ?_) (fun rb2 => ?_)
        · have hb2 := rb2
          try simp only [beq_iff_eq, bne_iff_ne, ne_eq, bne_eq_false_iff_eq, beq_eq_false_iff_ne, decide_eq_true_eq, decide_eq_false_iff_not, Bool.not_eq_true', Bool.not_eq_false', Bool.or_eq_true, Bool.and_eq_true, Bool.or_eq_false_iff, Bool.and_eq_false_iff] at hb2
          refine vwp_seq_region rfl fun K hK => ?_
          simp (dsimp := false) only [push_cast, hP, hnt, hgw, hgb, Nat.reduceLT, Nat.reduceEqDiff, Nat.reduceAdd, Nat.reduceSub, Nat.reduceMul, Nat.reduceLeDiff, ↓reduceIte, reduceCtorEq, hi0, hw, hd, hb1]
          refine hK _ ?_; clear hK
          refine vwp_ret ?_
          refine ret_free (by simp (dsimp := false) only [push_cast, hP, hnt, hgw, hgb, Nat.reduceLT, Nat.reduceEqDiff, Nat.reduceAdd, Nat.reduceSub, Nat.reduceMul, Nat.reduceLeDiff, ↓reduceIte, reduceCtorEq, hi0, hw, hd, hb1]; rfl) (by simp (dsimp := false) only [push_cast, hP, hnt, hgw, hgb, Nat.reduceLT, Nat.reduceEqDiff, Nat.reduceAdd, Nat.reduceSub, Nat.reduceMul, Nat.reduceLeDiff, ↓reduceIte, reduceCtorEq, hi0, hw, hd, hb1]) ?_
          rw [checksF_small hb0, ← hi2, firstE_drop hi0 hb1, if_neg (by simpa using hb2)]; rfl
        · have hb2 := rb2
          try simp only [beq_iff_eq, bne_iff_ne, ne_eq, bne_eq_false_iff_eq, beq_eq_false_iff_ne, decide_eq_true_eq, decide_eq_false_iff_not, Bool.not_eq_true', Bool.not_eq_false', Bool.or_eq_true, Bool.and_eq_true, Bool.or_eq_false_iff, Bool.and_eq_false_iff] at hb2
          refine vwp_skip ?_
          apply_assumption
          refine vwp_region rfl ?_
          simp (dsimp := false) only [push_cast, hP, hnt, hgw, hgb, Nat.reduceLT, Nat.reduceEqDiff, Nat.reduceAdd, Nat.reduceSub, Nat.reduceMul, Nat.reduceLeDiff, ↓reduceIte, reduceCtorEq, hi0, hw, hd, hb1]
          refine hL0 _ _ _ ?_ ?_ ⟨i + 1, rfl, ?_, rfl⟩
          · omega
          · refine wk_conv [] [] (by simp) (by simp) (by decide) ?_ ?_
            · refine hf_cons (by simp (dsimp := false) only [push_cast, ↓reduceIte, Nat.reduceEqDiff, Nat.reduceAdd, reduceCtorEq, hi0, hw, hd, hb1] <;> rfl) (by repeat' (first | exact ConvVs.nil | exact ConvL.nil | refine ConvV.tup ?_ | refine ConvVs.cons ?_ ?_ | (refine ConvV.self ?_; simp only [push_cast]; done) | refine ConvV.one ?_ | refine ConvV.agg ?_ | (refine ConvL.free ?_; simp only [push_cast]; done) | refine ConvL.append ?_ ?_ | refine ConvL.cons ?_ ?_ | exact Conv.free rfl | exact Conv.nil | (refine Conv.own ?_; simp; done) | (refine Conv.loc ?_; simp; done) | refine Conv.frz (by simp) (by simp (dsimp := false) only [push_cast, ↓reduceIte, Nat.reduceEqDiff, Nat.reduceAdd, reduceCtorEq, hi0, hw, hd, hb1] <;> rfl) ?_ | refine Conv.sl (by simp) ?_ | refine Conv.fn ?_)) ?_
              refine hf_cons (by simp (dsimp := false) only [push_cast, ↓reduceIte, Nat.reduceEqDiff, Nat.reduceAdd, reduceCtorEq, hi0, hw, hd, hb1] <;> rfl) (by exact ConvV.self rfl) ?_
              refine hf_cons (by simp (dsimp := false) only [push_cast, ↓reduceIte, Nat.reduceEqDiff, Nat.reduceAdd, reduceCtorEq, hi0, hw, hd, hb1] <;> rfl) (by exact ConvV.self rfl) ?_
              exact hf_nil
            · exact hh_nil
          · exact ⟨by omega, by omega, by rw [firstE_drop hi0 hb1, if_pos (by simpa using hb2)] at hi2; exact hi2⟩
      · have hb1 := rb1
        try simp only [beq_iff_eq, bne_iff_ne, ne_eq, bne_eq_false_iff_eq, beq_eq_false_iff_ne, decide_eq_true_eq, decide_eq_false_iff_not, Bool.not_eq_true', Bool.not_eq_false', Bool.or_eq_true, Bool.and_eq_true, Bool.or_eq_false_iff, Bool.and_eq_false_iff] at hb1
        refine vwp_exit ?_
        simp only [thenQ, blockQ, Nat.reduceEqDiff, reduceIte]
        apply_assumption
        refine vwp_seq_region rfl fun K hK => ?_
        simp (dsimp := false) only [push_cast, hP, hnt, hgw, hgb, Nat.reduceLT, Nat.reduceEqDiff, Nat.reduceAdd, Nat.reduceSub, Nat.reduceMul, Nat.reduceLeDiff, ↓reduceIte, reduceCtorEq, hi0]
        refine hK _ ?_; clear hK
        refine vwp_ret ?_
        refine ret_free (by simp (dsimp := false) only [push_cast, hP, hnt, hgw, hgb, Nat.reduceLT, Nat.reduceEqDiff, Nat.reduceAdd, Nat.reduceSub, Nat.reduceMul, Nat.reduceLeDiff, ↓reduceIte, reduceCtorEq, hi0]; rfl) (by simp (dsimp := false) only [push_cast, hP, hnt, hgw, hgb, Nat.reduceLT, Nat.reduceEqDiff, Nat.reduceAdd, Nat.reduceSub, Nat.reduceMul, Nat.reduceLeDiff, ↓reduceIte, reduceCtorEq, hi0]) ?_
        rw [checksF_small hb0, ← hi2, firstE_end hb1]; rfl
theorem refChecks_call (gw : World) (gb : Nat) (l : List (ByteArray × Int)) : VCall Tryd.prog gw (gb) 61 [.one (.sl false l.length (l.flatMap fun p => [.c (.string p.1), .c (.int .i64 p.2)]))] (.one (.c (.int .i64 (checksR l)))) [] := by
  refine vcall_of [.tmp 2] Tryd.func61 rfl rfl Tryd.ntmps61 rfl (by simp) ?_
  intro C hP hnt hgw hgb hfull
  refine vwp_seq_region rfl fun K hK => ?_
  simp (dsimp := false) only [push_cast, hP, hnt, hgw, hgb, Nat.reduceLT, Nat.reduceEqDiff, Nat.reduceAdd, Nat.reduceSub, Nat.reduceMul, Nat.reduceLeDiff, ↓reduceIte, reduceCtorEq]
  refine hK _ ?_; clear hK
  refine vwp_seq fun K hK => ?_
  refine vwp_seq_region rfl fun K hK => ?_
  simp (dsimp := false) only [push_cast, hP, hnt, hgw, hgb, Nat.reduceLT, Nat.reduceEqDiff, Nat.reduceAdd, Nat.reduceSub, Nat.reduceMul, Nat.reduceLeDiff, ↓reduceIte, reduceCtorEq]
  refine hK _ ?_; clear hK
  refine vwp_cond (b := _) (by simp (dsimp := false) only [push_cast, hP, hnt, hgw, hgb, Nat.reduceLT, Nat.reduceEqDiff, Nat.reduceAdd, Nat.reduceSub, Nat.reduceMul, Nat.reduceLeDiff, ↓reduceIte, reduceCtorEq]; rfl) (fun rb0 => ?_) (fun rb0 => ?_)
  · have hb0 := rb0
    try simp only [beq_iff_eq, bne_iff_ne, ne_eq, bne_eq_false_iff_eq, beq_eq_false_iff_ne, decide_eq_true_eq, decide_eq_false_iff_not, Bool.not_eq_true', Bool.not_eq_false', Bool.or_eq_true, Bool.and_eq_true, Bool.or_eq_false_iff, Bool.and_eq_false_iff] at hb0
    refine vwp_seq_region rfl fun K hK => ?_
    simp (dsimp := false) only [push_cast, hP, hnt, hgw, hgb, Nat.reduceLT, Nat.reduceEqDiff, Nat.reduceAdd, Nat.reduceSub, Nat.reduceMul, Nat.reduceLeDiff, ↓reduceIte, reduceCtorEq]
    refine hK _ ?_; clear hK
    refine vwp_ret ?_
    refine ret_free (by simp (dsimp := false) only [push_cast, hP, hnt, hgw, hgb, Nat.reduceLT, Nat.reduceEqDiff, Nat.reduceAdd, Nat.reduceSub, Nat.reduceMul, Nat.reduceLeDiff, ↓reduceIte, reduceCtorEq]; rfl) (by simp (dsimp := false) only [push_cast, hP, hnt, hgw, hgb, Nat.reduceLT, Nat.reduceEqDiff, Nat.reduceAdd, Nat.reduceSub, Nat.reduceMul, Nat.reduceLeDiff, ↓reduceIte, reduceCtorEq]) ?_
    rw [checksR_big hb0]; rfl
  · have hb0 := rb0
    try simp only [beq_iff_eq, bne_iff_ne, ne_eq, bne_eq_false_iff_eq, beq_eq_false_iff_ne, decide_eq_true_eq, decide_eq_false_iff_not, Bool.not_eq_true', Bool.not_eq_false', Bool.or_eq_true, Bool.and_eq_true, Bool.or_eq_false_iff, Bool.and_eq_false_iff] at hb0
    refine vwp_skip ?_
    apply_assumption
    refine vwp_seq fun K hK => ?_
    refine vwp_seq_region rfl fun K hK => ?_
    simp (dsimp := false) only [push_cast, hP, hnt, hgw, hgb, Nat.reduceLT, Nat.reduceEqDiff, Nat.reduceAdd, Nat.reduceSub, Nat.reduceMul, Nat.reduceLeDiff, ↓reduceIte, reduceCtorEq]
    refine hK _ ?_; clear hK
    refine vwp_block ?_
    refine vwp_loop (fun m σ => ∃ (i : Int), m = (l.length - i).toNat ∧ ((0 ≤ i) ∧ (i ≤ l.length) ∧ (firstR (l.drop i.toNat) = firstR l)) ∧ σ = St.of [(0, .one (.sl false l.length (l.flatMap fun p => [.c (.string p.1), .c (.int .i64 p.2)]))), (3, .one (.c (.int .i64 i)))] [] []) _ ⟨_, ?_, 0, rfl, ?_, rfl⟩ ?_
    · refine wk_conv [] [] (by simp) (by simp) (by decide) ?_ ?_
      · refine hf_cons (by simp (dsimp := false) only [push_cast, ↓reduceIte, Nat.reduceEqDiff, Nat.reduceAdd, reduceCtorEq] <;> rfl) (by repeat' (first | exact ConvVs.nil | exact ConvL.nil | refine ConvV.tup ?_ | refine ConvVs.cons ?_ ?_ | (refine ConvV.self ?_; simp only [push_cast]; done) | refine ConvV.one ?_ | refine ConvV.agg ?_ | (refine ConvL.free ?_; simp only [push_cast]; done) | refine ConvL.append ?_ ?_ | refine ConvL.cons ?_ ?_ | exact Conv.free rfl | exact Conv.nil | (refine Conv.own ?_; simp; done) | (refine Conv.loc ?_; simp; done) | refine Conv.frz (by simp) (by simp (dsimp := false) only [push_cast, ↓reduceIte, Nat.reduceEqDiff, Nat.reduceAdd, reduceCtorEq] <;> rfl) ?_ | refine Conv.sl (by simp) ?_ | refine Conv.fn ?_)) ?_
        refine hf_cons (by simp (dsimp := false) only [push_cast, ↓reduceIte, Nat.reduceEqDiff, Nat.reduceAdd, reduceCtorEq] <;> rfl) (by exact ConvV.self rfl) ?_
        exact hf_nil
      · exact hh_nil
    · exact ⟨by omega, by omega, rfl⟩
    · rintro m τ ⟨i, hm, ⟨hi0, hi1, hi2⟩, rfl⟩ K hL0
      have hw := fun h : i < (l.length : Int) => wrap_next hi0 h (by omega)
      have hd := fun h : i < (l.length : Int) => dropI_two (fun p : ByteArray × Int => PC.c (Value.string p.1)) (fun p : ByteArray × Int => PC.c (Value.int .i64 p.2)) hi0 h
      refine vwp_seq fun K hK => ?_
      refine vwp_seq_region rfl fun K hK => ?_
      simp (dsimp := false) only [push_cast, hP, hnt, hgw, hgb, Nat.reduceLT, Nat.reduceEqDiff, Nat.reduceAdd, Nat.reduceSub, Nat.reduceMul, Nat.reduceLeDiff, ↓reduceIte, reduceCtorEq, hi0]
      refine hK _ ?_; clear hK
      refine vwp_cond (b := _) (by simp (dsimp := false) only [push_cast, hP, hnt, hgw, hgb, Nat.reduceLT, Nat.reduceEqDiff, Nat.reduceAdd, Nat.reduceSub, Nat.reduceMul, Nat.reduceLeDiff, ↓reduceIte, reduceCtorEq, hi0]; rfl) (fun rb1 => ?_) (fun rb1 => ?_)
      · have hb1 := rb1
        try simp only [beq_iff_eq, bne_iff_ne, ne_eq, bne_eq_false_iff_eq, beq_eq_false_iff_ne, decide_eq_true_eq, decide_eq_false_iff_not, Bool.not_eq_true', Bool.not_eq_false', Bool.or_eq_true, Bool.and_eq_true, Bool.or_eq_false_iff, Bool.and_eq_false_iff] at hb1
        have hw := hw hb1
        have hd := hd hb1
        refine vwp_skip ?_
        apply_assumption
        refine vwp_seq fun K hK => ?_
        refine vwp_block ?_
        refine vwp_seq_region rfl fun K hK => ?_
        simp (dsimp := false) only [push_cast, hP, hnt, hgw, hgb, Nat.reduceLT, Nat.reduceEqDiff, Nat.reduceAdd, Nat.reduceSub, Nat.reduceMul, Nat.reduceLeDiff, ↓reduceIte, reduceCtorEq, hi0, hw, hd, hb1]
        refine .inl (callE_intro (refCheck_call gw gb _ _) (.inl ⟨rfl, rfl⟩) ?_)
        simp (dsimp := false) only [push_cast, hP, hnt, hgw, hgb, Nat.reduceLT, Nat.reduceEqDiff, Nat.reduceAdd, Nat.reduceSub, Nat.reduceMul, Nat.reduceLeDiff, ↓reduceIte, reduceCtorEq, hi0, hw, hd, hb1]
        refine hK _ ?_; clear hK
        refine vwp_seq_region rfl fun K hK => ?_
        simp (dsimp := false) only [push_cast, hP, hnt, hgw, hgb, Nat.reduceLT, Nat.reduceEqDiff, Nat.reduceAdd, Nat.reduceSub, Nat.reduceMul, Nat.reduceLeDiff, ↓reduceIte, reduceCtorEq, hi0, hw, hd, hb1]
        refine hK _ ?_; clear hK
        refine vwp_cond (b := _) (by simp (dsimp := false) only [push_cast, hP, hnt, hgw, hgb, Nat.reduceLT, Nat.reduceEqDiff, Nat.reduceAdd, Nat.reduceSub, Nat.reduceMul, Nat.reduceLeDiff, ↓reduceIte, reduceCtorEq, hi0, hw, hd, hb1]; rfl) (fun rb2 => ?_) (fun rb2 => ?_)
        · have hb2 := rb2
          try simp only [beq_iff_eq, bne_iff_ne, ne_eq, bne_eq_false_iff_eq, beq_eq_false_iff_ne, decide_eq_true_eq, decide_eq_false_iff_not, Bool.not_eq_true', Bool.not_eq_false', Bool.or_eq_true, Bool.and_eq_true, Bool.or_eq_false_iff, Bool.and_eq_false_iff] at hb2
          refine vwp_seq_region rfl fun K hK => ?_
          simp (dsimp := false) only [push_cast, hP, hnt, hgw, hgb, Nat.reduceLT, Nat.reduceEqDiff, Nat.reduceAdd, Nat.reduceSub, Nat.reduceMul, Nat.reduceLeDiff, ↓reduceIte, reduceCtorEq, hi0, hw, hd, hb1]
          refine hK _ ?_; clear hK
          refine vwp_ret ?_
          refine ret_free (by simp (dsimp := false) only [push_cast, hP, hnt, hgw, hgb, Nat.reduceLT, Nat.reduceEqDiff, Nat.reduceAdd, Nat.reduceSub, Nat.reduceMul, Nat.reduceLeDiff, ↓reduceIte, reduceCtorEq, hi0, hw, hd, hb1]; rfl) (by simp (dsimp := false) only [push_cast, hP, hnt, hgw, hgb, Nat.reduceLT, Nat.reduceEqDiff, Nat.reduceAdd, Nat.reduceSub, Nat.reduceMul, Nat.reduceLeDiff, ↓reduceIte, reduceCtorEq, hi0, hw, hd, hb1]) ?_
          rw [checksR_small hb0, ← hi2, firstR_drop hi0 hb1, if_neg (by simpa using hb2)]; rfl
        · have hb2 := rb2
          try simp only [beq_iff_eq, bne_iff_ne, ne_eq, bne_eq_false_iff_eq, beq_eq_false_iff_ne, decide_eq_true_eq, decide_eq_false_iff_not, Bool.not_eq_true', Bool.not_eq_false', Bool.or_eq_true, Bool.and_eq_true, Bool.or_eq_false_iff, Bool.and_eq_false_iff] at hb2
          refine vwp_skip ?_
          apply_assumption
          refine vwp_region rfl ?_
          simp (dsimp := false) only [push_cast, hP, hnt, hgw, hgb, Nat.reduceLT, Nat.reduceEqDiff, Nat.reduceAdd, Nat.reduceSub, Nat.reduceMul, Nat.reduceLeDiff, ↓reduceIte, reduceCtorEq, hi0, hw, hd, hb1]
          refine hL0 _ _ _ ?_ ?_ ⟨i + 1, rfl, ?_, rfl⟩
          · omega
          · refine wk_conv [] [] (by simp) (by simp) (by decide) ?_ ?_
            · refine hf_cons (by simp (dsimp := false) only [push_cast, ↓reduceIte, Nat.reduceEqDiff, Nat.reduceAdd, reduceCtorEq, hi0, hw, hd, hb1] <;> rfl) (by repeat' (first | exact ConvVs.nil | exact ConvL.nil | refine ConvV.tup ?_ | refine ConvVs.cons ?_ ?_ | (refine ConvV.self ?_; simp only [push_cast]; done) | refine ConvV.one ?_ | refine ConvV.agg ?_ | (refine ConvL.free ?_; simp only [push_cast]; done) | refine ConvL.append ?_ ?_ | refine ConvL.cons ?_ ?_ | exact Conv.free rfl | exact Conv.nil | (refine Conv.own ?_; simp; done) | (refine Conv.loc ?_; simp; done) | refine Conv.frz (by simp) (by simp (dsimp := false) only [push_cast, ↓reduceIte, Nat.reduceEqDiff, Nat.reduceAdd, reduceCtorEq, hi0, hw, hd, hb1] <;> rfl) ?_ | refine Conv.sl (by simp) ?_ | refine Conv.fn ?_)) ?_
              refine hf_cons (by simp (dsimp := false) only [push_cast, ↓reduceIte, Nat.reduceEqDiff, Nat.reduceAdd, reduceCtorEq, hi0, hw, hd, hb1] <;> rfl) (by exact ConvV.self rfl) ?_
              exact hf_nil
            · exact hh_nil
          · exact ⟨by omega, by omega, by rw [firstR_drop hi0 hb1, if_pos (by simpa using hb2)] at hi2; exact hi2⟩
      · have hb1 := rb1
        try simp only [beq_iff_eq, bne_iff_ne, ne_eq, bne_eq_false_iff_eq, beq_eq_false_iff_ne, decide_eq_true_eq, decide_eq_false_iff_not, Bool.not_eq_true', Bool.not_eq_false', Bool.or_eq_true, Bool.and_eq_true, Bool.or_eq_false_iff, Bool.and_eq_false_iff] at hb1
        refine vwp_exit ?_
        simp only [thenQ, blockQ, Nat.reduceEqDiff, reduceIte]
        apply_assumption
        refine vwp_seq_region rfl fun K hK => ?_
        simp (dsimp := false) only [push_cast, hP, hnt, hgw, hgb, Nat.reduceLT, Nat.reduceEqDiff, Nat.reduceAdd, Nat.reduceSub, Nat.reduceMul, Nat.reduceLeDiff, ↓reduceIte, reduceCtorEq, hi0]
        refine hK _ ?_; clear hK
        refine vwp_ret ?_
        refine ret_free (by simp (dsimp := false) only [push_cast, hP, hnt, hgw, hgb, Nat.reduceLT, Nat.reduceEqDiff, Nat.reduceAdd, Nat.reduceSub, Nat.reduceMul, Nat.reduceLeDiff, ↓reduceIte, reduceCtorEq, hi0]; rfl) (by simp (dsimp := false) only [push_cast, hP, hnt, hgw, hgb, Nat.reduceLT, Nat.reduceEqDiff, Nat.reduceAdd, Nat.reduceSub, Nat.reduceMul, Nat.reduceLeDiff, ↓reduceIte, reduceCtorEq, hi0]) ?_
        rw [checksR_small hb0, ← hi2, firstR_end hb1]; rfl
end Go.Vm
end

section
namespace Go.Vm
open Go Go.RowKit Go.Proofs
set_option maxRecDepth 100000
set_option linter.unusedSimpArgs false
set_option linter.unusedVariables false
set_option maxHeartbeats 4000000

theorem textF_snd (n : ByteArray) (k : Int) : (textF n k).2 = checkF n k := by
  unfold textF
  split
  · rfl
  · rename_i h
    have : checkF n k = 0 := by simpa using h
    split <;> simp [this]
theorem textF_size {n : ByteArray} {k : Int} (h : checkF n k = 0) : (textF n k).1.size ≤ 100 := by
  unfold textF
  rw [if_neg (by simp [h])]
  have hz := checkF_ok (n := n) (k := k) h
  split
  · show n.size ≤ 100
    omega
  · rw [ByteArray.size_append, ByteArray.size_append, digitsB_size k (by omega)]
    have : colon.size = 1 := rfl
    omega
theorem join_snoc (sep : List UInt8) : ∀ (ws : List (List UInt8)) (w : List UInt8), Lib.join (ws ++ [w]) sep = if ws = [] then w else Lib.join ws sep ++ sep ++ w
  | [], w => by simp [Lib.join_one]
  | a :: r, w => by
    rw [List.cons_append, Lib.join_cons, Lib.join_cons, if_neg (by simp)]
    simp [Lib.joinTail]
theorem joinS_nil (sep : ByteArray) : joinS sep [] = ⟨#[]⟩ := rfl
theorem joinS_snoc (sep : ByteArray) (ws : List ByteArray) (w : ByteArray) (h : ws ≠ []) : joinS sep (ws ++ [w]) = joinS sep ws ++ sep ++ w := by
  unfold joinS
  rw [List.map_append, List.map_cons, List.map_nil, join_snoc, if_neg (by simpa using h)]
  apply ByteArray.ext
  simp [ByteArray.data_append]
theorem lens_le (n : Nat) : ∀ (ws : List (List UInt8)), (∀ w ∈ ws, w.length ≤ n) → Lib.lens ws ≤ n * ws.length
  | [], _ => by simp [Lib.lens]
  | w :: ws, h => by
    have h1 := lens_le n ws fun x hx => h x (List.mem_cons_of_mem _ hx)
    have h2 := h w (by simp)
    simp only [Lib.lens, List.map_cons, List.sum_cons, List.length_cons, Nat.mul_succ] at h1 ⊢
    omega
theorem joinS_bound (sep : ByteArray) (n : Nat) (ws : List ByteArray) (h : ∀ w ∈ ws, w.size ≤ n) : (joinS sep ws).size ≤ (n + sep.size) * ws.length := by
  cases ws with
  | nil => rw [joinS_nil]; exact Nat.zero_le _
  | cons w ws =>
    have h1 := lens_le n ((w :: ws).map fun x => x.data.toList) fun x hx => by
      obtain ⟨y, hy, rfl⟩ := List.mem_map.1 hx
      rw [← size_list]; exact h y hy
    have h2 : (joinS sep (w :: ws)).size = (Lib.join ((w :: ws).map fun x => x.data.toList) sep.data.toList).length := bOf_size _
    rw [h2, List.map_cons, Lib.join_length, ← size_list, List.length_map, List.length_cons]
    rw [List.map_cons, List.length_cons, List.length_map] at h1
    rw [Nat.add_mul]
    have := Nat.mul_le_mul_left sep.size (Nat.le_succ ws.length)
    simp only [Nat.succ_eq_add_one] at this
    omega
def commaB : ByteArray := ⟨#[44]⟩
def textP (p : ByteArray × Int) : ByteArray := (textF p.1 p.2).1
def textC (p : ByteArray × Int) : PC := .c (.string (textP p))
def passesF (l : List (ByteArray × Int)) : ByteArray × Int := if checksF l ≠ 0 then (⟨#[]⟩, checksF l) else (joinS commaB (l.map textP), 0)
theorem firstE_mem : ∀ {l : List (ByteArray × Int)}, firstE l = 0 → ∀ p ∈ l, checkF p.1 p.2 = 0
  | [], _, p, hp => by simp at hp
  | q :: l, h, p, hp => by
    unfold firstE at h
    split at h
    · rename_i hq
      rcases List.mem_cons.1 hp with rfl | hp
      · exact hq
      · exact firstE_mem h p hp
    · rename_i hq; exact absurd h hq
theorem checksF_zero {l : List (ByteArray × Int)} (h : checksF l = 0) : l.length ≤ 10 ∧ firstE l = 0 := by
  unfold checksF at h
  split at h
  · cases h
  · exact ⟨by omega, h⟩
theorem textP_size {l : List (ByteArray × Int)} (h : checksF l = 0) : ∀ w ∈ l.map textP, w.size ≤ 100 := by
  intro w hw
  obtain ⟨p, hp, rfl⟩ := List.mem_map.1 hw
  exact textF_size (firstE_mem (checksF_zero h).2 p hp)
theorem joinP_size {l : List (ByteArray × Int)} (h : checksF l = 0) : (joinS commaB (l.map textP)).size ≤ 2000 := by
  have h1 := joinS_bound commaB 100 (l.map textP) (textP_size h)
  have h2 := (checksF_zero h).1
  have h3 : commaB.size = 1 := rfl
  rw [List.length_map, h3] at h1
  have := Nat.mul_le_mul_left (100 + 1) h2
  omega
theorem joinP_call (gw : World) (gb : Nat) (l : List (ByteArray × Int)) (h : checksF l = 0) : VCall Tryd.prog gw gb 43 [.one (.sl false l.length (l.map fun p => .c (.string (textP p)))), .one (.c (.string ⟨#[44]⟩))] (.one (.c (.string (joinS commaB (l.map textP))))) [] := by
  have := join_call gw gb (l.map textP) commaB (by rw [List.length_map]; have := (checksF_zero h).1; omega) (by have := joinP_size h; omega)
  rwa [List.length_map, List.map_map] at this
theorem rowAt_two {f : (ByteArray × Int) → PC} {z : PC} {l : List (ByteArray × Int)} : rowZ [z] l.length = rowAt f z l (Int.toNat 0) := rowAt_zero
theorem passesF_bad {l : List (ByteArray × Int)} (h : ¬ checksF l = 0) : passesF l = (⟨#[]⟩, checksF l) := if_pos h
theorem passesF_ok {l : List (ByteArray × Int)} (h : checksF l = 0) : passesF l = (joinS commaB (l.map textP), 0) := if_neg (by simpa using h)
theorem passes_call (gw : World) (gb : Nat) (l : List (ByteArray × Int)) (hl : l.length ≤ 100000) : VCall Tryd.prog gw (gb) 20 [.one (.sl false l.length (l.flatMap fun p => [.c (.string p.1), .c (.int .i64 p.2)]))] (.tup [.one (.c (.string (passesF l).1)), .one (.c (.int .i64 (passesF l).2))]) [] := by
  have hz : rowZ [PC.c (Value.string ⟨#[]⟩)] l.length = rowAt textC (.c (.string ⟨#[]⟩)) l (Int.toNat 0) := rowAt_two
  have hm1 : (0 + 1 + 1 + 1 + 1 + 1 + 1 + 1 + 1 + 1 + 1 + 1 + 1 + 1 + 1 + 1 + 1) * (l.length : Int) ≤ 140737488355328 := by omega
  have hm2 : (l.length : Int) ≤ 140737488355328 := by omega
  have hm3 : (0 : Int) ≤ (l.length : Int) := by omega
  have hrf : ∀ k, PC.frees (rowAt textC (.c (.string ⟨#[]⟩)) l k) = true := fun k => rowAt_frees rfl fun _ => rfl
  refine vcall_of [.tmp 2, .tmp 3] Tryd.func20 rfl rfl Tryd.ntmps20 rfl (by simp) ?_
  intro C hP hnt hgw hgb hfull
  refine vwp_seq_region rfl fun K hK => ?_
  simp (dsimp := false) only [push_cast, hP, hnt, hgw, hgb, Nat.reduceLT, Nat.reduceEqDiff, Nat.reduceAdd, Nat.reduceSub, Nat.reduceMul, Nat.reduceLeDiff, ↓reduceIte, reduceCtorEq, Int.toNat_natCast, hm1, hm2, hm3, hrf]
  refine hK _ ?_; clear hK
  refine vwp_seq fun K hK => ?_
  refine vwp_seq_region rfl fun K hK => ?_
  simp (dsimp := false) only [push_cast, hP, hnt, hgw, hgb, Nat.reduceLT, Nat.reduceEqDiff, Nat.reduceAdd, Nat.reduceSub, Nat.reduceMul, Nat.reduceLeDiff, ↓reduceIte, reduceCtorEq, Int.toNat_natCast, hm1, hm2, hm3, hrf]
  refine .inl (callE_intro (checks_call gw gb l) (.inl ⟨rfl, rfl⟩) ?_)
  simp (dsimp := false) only [push_cast, hP, hnt, hgw, hgb, Nat.reduceLT, Nat.reduceEqDiff, Nat.reduceAdd, Nat.reduceSub, Nat.reduceMul, Nat.reduceLeDiff, ↓reduceIte, reduceCtorEq, Int.toNat_natCast, hm1, hm2, hm3, hrf]
  refine hK _ ?_; clear hK
  refine vwp_seq_region rfl fun K hK => ?_
  simp (dsimp := false) only [push_cast, hP, hnt, hgw, hgb, Nat.reduceLT, Nat.reduceEqDiff, Nat.reduceAdd, Nat.reduceSub, Nat.reduceMul, Nat.reduceLeDiff, ↓reduceIte, reduceCtorEq, Int.toNat_natCast, hm1, hm2, hm3, hrf]
  refine hK _ ?_; clear hK
  refine vwp_cond (b := _) (by simp (dsimp := false) only [push_cast, hP, hnt, hgw, hgb, Nat.reduceLT, Nat.reduceEqDiff, Nat.reduceAdd, Nat.reduceSub, Nat.reduceMul, Nat.reduceLeDiff, ↓reduceIte, reduceCtorEq, Int.toNat_natCast, hm1, hm2, hm3, hrf]; rfl) (fun rb0 => ?_) (fun rb0 => ?_)
  · have hb0 := rb0
    try simp only [beq_iff_eq, bne_iff_ne, ne_eq, bne_eq_false_iff_eq, beq_eq_false_iff_ne, decide_eq_true_eq, decide_eq_false_iff_not, Bool.not_eq_true', Bool.not_eq_false', Bool.or_eq_true, Bool.and_eq_true, Bool.or_eq_false_iff, Bool.and_eq_false_iff] at hb0
    refine vwp_seq_region rfl fun K hK => ?_
    simp (dsimp := false) only [push_cast, hP, hnt, hgw, hgb, Nat.reduceLT, Nat.reduceEqDiff, Nat.reduceAdd, Nat.reduceSub, Nat.reduceMul, Nat.reduceLeDiff, ↓reduceIte, reduceCtorEq, Int.toNat_natCast, hm1, hm2, hm3, hrf]
    refine hK _ ?_; clear hK
    refine vwp_ret ?_
    refine ret_free (by simp (dsimp := false) only [push_cast, hP, hnt, hgw, hgb, Nat.reduceLT, Nat.reduceEqDiff, Nat.reduceAdd, Nat.reduceSub, Nat.reduceMul, Nat.reduceLeDiff, ↓reduceIte, reduceCtorEq, Int.toNat_natCast, hm1, hm2, hm3, hrf]; rfl) (by simp (dsimp := false) only [push_cast, hP, hnt, hgw, hgb, Nat.reduceLT, Nat.reduceEqDiff, Nat.reduceAdd, Nat.reduceSub, Nat.reduceMul, Nat.reduceLeDiff, ↓reduceIte, reduceCtorEq, Int.toNat_natCast, hm1, hm2, hm3, hrf]) ?_
    rw [passesF_bad (by simpa using hb0)]; rfl
  · have hb0 := rb0
    try simp only [beq_iff_eq, bne_iff_ne, ne_eq, bne_eq_false_iff_eq, beq_eq_false_iff_ne, decide_eq_true_eq, decide_eq_false_iff_not, Bool.not_eq_true', Bool.not_eq_false', Bool.or_eq_true, Bool.and_eq_true, Bool.or_eq_false_iff, Bool.and_eq_false_iff] at hb0
    refine vwp_skip ?_
    apply_assumption
    refine vwp_seq_region rfl fun K hK => ?_
    simp (dsimp := false) only [push_cast, hP, hnt, hgw, hgb, Nat.reduceLT, Nat.reduceEqDiff, Nat.reduceAdd, Nat.reduceSub, Nat.reduceMul, Nat.reduceLeDiff, ↓reduceIte, reduceCtorEq, Int.toNat_natCast, hm1, hm2, hm3, hrf]
    refine hK _ ?_; clear hK
    refine vwp_seq fun K hK => ?_
    refine vwp_seq_region rfl fun K hK => ?_
    simp (dsimp := false) only [push_cast, hP, hnt, hgw, hgb, Nat.reduceLT, Nat.reduceEqDiff, Nat.reduceAdd, Nat.reduceSub, Nat.reduceMul, Nat.reduceLeDiff, ↓reduceIte, reduceCtorEq, Int.toNat_natCast, hm1, hm2, hm3, hrf]
    refine hK _ ?_; clear hK
    refine vwp_block ?_
    refine vwp_loop (fun m σ => ∃ (i : Int), m = (l.length - i).toNat ∧ ((0 ≤ i) ∧ (i ≤ l.length)) ∧ σ = St.of [(5, .one (.own (18, 0))), (18, .one (.sl false l.length (l.flatMap fun p => [.c (.string p.1), .c (.int .i64 p.2)]))), (19, .one (.c (.int .i64 l.length))), (20, .one (.c (.int .i64 i)))] [((18, 0), .arr 9 1 l.length (rowAt textC (.c (.string ⟨#[]⟩)) l i.toNat))] [17]) _ ⟨_, ?_, 0, rfl, ?_, rfl⟩ ?_
    · refine wk_conv [] [((18, 0), (18, 0))] (by simp) (by simp) (by decide) ?_ ?_
      · refine hf_cons (by simp (dsimp := false) only [push_cast, ↓reduceIte, Nat.reduceEqDiff, Nat.reduceAdd, reduceCtorEq, Int.toNat_natCast, hm1, hm2, hm3, hrf, hz] <;> rfl) (by exact .one (.own (by simp))) ?_
        refine hf_cons (by simp (dsimp := false) only [push_cast, ↓reduceIte, Nat.reduceEqDiff, Nat.reduceAdd, reduceCtorEq, Int.toNat_natCast, hm1, hm2, hm3, hrf, hz] <;> rfl) (by repeat' (first | exact ConvVs.nil | exact ConvL.nil | refine ConvV.tup ?_ | refine ConvVs.cons ?_ ?_ | (refine ConvV.self ?_; simp only [push_cast, hrf]; done) | refine ConvV.one ?_ | refine ConvV.agg ?_ | (refine ConvL.free ?_; simp only [push_cast, hrf]; done) | refine ConvL.append ?_ ?_ | refine ConvL.cons ?_ ?_ | exact Conv.free rfl | exact Conv.nil | (refine Conv.own ?_; simp; done) | (refine Conv.loc ?_; simp; done) | refine Conv.frz (by simp) (by simp (dsimp := false) only [push_cast, ↓reduceIte, Nat.reduceEqDiff, Nat.reduceAdd, reduceCtorEq, Int.toNat_natCast, hm1, hm2, hm3, hrf, hz] <;> rfl) ?_ | refine Conv.sl (by simp) ?_ | refine Conv.fn ?_)) ?_
        refine hf_cons (by simp (dsimp := false) only [push_cast, ↓reduceIte, Nat.reduceEqDiff, Nat.reduceAdd, reduceCtorEq, Int.toNat_natCast, hm1, hm2, hm3, hrf, hz] <;> rfl) (by exact ConvV.self rfl) ?_
        refine hf_cons (by simp (dsimp := false) only [push_cast, ↓reduceIte, Nat.reduceEqDiff, Nat.reduceAdd, reduceCtorEq, Int.toNat_natCast, hm1, hm2, hm3, hrf, hz] <;> rfl) (by exact ConvV.self rfl) ?_
        exact hf_nil
      · refine hh_cons (i := (18, 0)) (by simp) (by simp) (by simp (dsimp := false) only [push_cast, ↓reduceIte, Nat.reduceEqDiff, Nat.reduceAdd, reduceCtorEq, Int.toNat_natCast, hm1, hm2, hm3, hrf, hz] <;> rfl) (by first | (refine ConvB.free ?_; simp only [push_cast, hrf]; done) | (refine ConvB.arr ?_; repeat' (first | exact ConvVs.nil | exact ConvL.nil | refine ConvV.tup ?_ | refine ConvVs.cons ?_ ?_ | (refine ConvV.self ?_; simp only [push_cast, hrf]; done) | refine ConvV.one ?_ | refine ConvV.agg ?_ | (refine ConvL.free ?_; simp only [push_cast, hrf]; done) | refine ConvL.append ?_ ?_ | refine ConvL.cons ?_ ?_ | exact Conv.free rfl | exact Conv.nil | (refine Conv.own ?_; simp; done) | (refine Conv.loc ?_; simp; done) | refine Conv.frz (by simp) (by simp (dsimp := false) only [push_cast, ↓reduceIte, Nat.reduceEqDiff, Nat.reduceAdd, reduceCtorEq, Int.toNat_natCast, hm1, hm2, hm3, hrf, hz] <;> rfl) ?_ | refine Conv.sl (by simp) ?_ | refine Conv.fn ?_))) ?_
        exact hh_nil
    · exact ⟨by omega, by omega⟩
    · rintro m τ ⟨i, hm, ⟨hi0, hi1⟩, rfl⟩ K hL0
      have hw := fun h : i < (l.length : Int) => wrap_next hi0 h (by omega)
      have hd := fun h : i < (l.length : Int) => dropI_two (fun p : ByteArray × Int => PC.c (Value.string p.1)) (fun p : ByteArray × Int => PC.c (Value.int .i64 p.2)) hi0 h
      refine vwp_seq_region rfl fun K hK => ?_
      simp (dsimp := false) only [push_cast, hP, hnt, hgw, hgb, Nat.reduceLT, Nat.reduceEqDiff, Nat.reduceAdd, Nat.reduceSub, Nat.reduceMul, Nat.reduceLeDiff, ↓reduceIte, reduceCtorEq, Int.toNat_natCast, hm1, hm2, hm3, hrf, hi0]
      refine hK _ ?_; clear hK
      refine vwp_seq fun K hK => ?_
      refine vwp_cond (b := _) (by simp (dsimp := false) only [push_cast, hP, hnt, hgw, hgb, Nat.reduceLT, Nat.reduceEqDiff, Nat.reduceAdd, Nat.reduceSub, Nat.reduceMul, Nat.reduceLeDiff, ↓reduceIte, reduceCtorEq, Int.toNat_natCast, hm1, hm2, hm3, hrf, hi0]; rfl) (fun rb1 => ?_) (fun rb1 => ?_)
      · have hb1 := rb1
        try simp only [beq_iff_eq, bne_iff_ne, ne_eq, bne_eq_false_iff_eq, beq_eq_false_iff_ne, decide_eq_true_eq, decide_eq_false_iff_not, Bool.not_eq_true', Bool.not_eq_false', Bool.or_eq_true, Bool.and_eq_true, Bool.or_eq_false_iff, Bool.and_eq_false_iff] at hb1
        have hw := hw hb1
        have hd := hd hb1
        have hk : i.toNat < l.length := by omega
        have hf1 : i.toNat * 1 + 1 ≤ (rowAt textC (PC.c (Value.string ⟨#[]⟩)) l i.toNat).length := by rw [rowAt_len (by omega)]; omega
        have hs1 : splice (rowAt textC (PC.c (Value.string ⟨#[]⟩)) l i.toNat) (i.toNat * 1) [PC.c (Value.string (textF (atI l i).1 (atI l i).2).1)] = rowPut textC (PC.c (Value.string ⟨#[]⟩)) l i.toNat (textC (atI l i)) := by rw [Nat.mul_one]; exact rowAt_put hk
        refine vwp_skip ?_
        apply_assumption
        refine vwp_seq fun K hK => ?_
        refine vwp_block ?_
        refine vwp_seq_region rfl fun K hK => ?_
        simp (dsimp := false) only [push_cast, hP, hnt, hgw, hgb, Nat.reduceLT, Nat.reduceEqDiff, Nat.reduceAdd, Nat.reduceSub, Nat.reduceMul, Nat.reduceLeDiff, ↓reduceIte, reduceCtorEq, Int.toNat_natCast, hm1, hm2, hm3, hrf, hi0, hw, hd, hb1, hf1, hs1]
        refine hK _ ?_; clear hK
        refine vwp_seq_region rfl fun K hK => ?_
        simp (dsimp := false) only [push_cast, hP, hnt, hgw, hgb, Nat.reduceLT, Nat.reduceEqDiff, Nat.reduceAdd, Nat.reduceSub, Nat.reduceMul, Nat.reduceLeDiff, ↓reduceIte, reduceCtorEq, Int.toNat_natCast, hm1, hm2, hm3, hrf, hi0, hw, hd, hb1, hf1, hs1]
        refine .inl (callE_intro (text_call gw gb _ _) (.inl ⟨rfl, rfl⟩) ?_)
        simp (dsimp := false) only [push_cast, hP, hnt, hgw, hgb, Nat.reduceLT, Nat.reduceEqDiff, Nat.reduceAdd, Nat.reduceSub, Nat.reduceMul, Nat.reduceLeDiff, ↓reduceIte, reduceCtorEq, Int.toNat_natCast, hm1, hm2, hm3, hrf, hi0, hw, hd, hb1, hf1, hs1]
        refine hK _ ?_; clear hK
        refine vwp_seq fun K hK => ?_
        refine vwp_seq_region rfl fun K hK => ?_
        simp (dsimp := false) only [push_cast, hP, hnt, hgw, hgb, Nat.reduceLT, Nat.reduceEqDiff, Nat.reduceAdd, Nat.reduceSub, Nat.reduceMul, Nat.reduceLeDiff, ↓reduceIte, reduceCtorEq, Int.toNat_natCast, hm1, hm2, hm3, hrf, hi0, hw, hd, hb1, hf1, hs1]
        refine hK _ ?_; clear hK
        refine vwp_cond (b := _) (by simp (dsimp := false) only [push_cast, hP, hnt, hgw, hgb, Nat.reduceLT, Nat.reduceEqDiff, Nat.reduceAdd, Nat.reduceSub, Nat.reduceMul, Nat.reduceLeDiff, ↓reduceIte, reduceCtorEq, Int.toNat_natCast, hm1, hm2, hm3, hrf, hi0, hw, hd, hb1, hf1, hs1]; rfl) (fun rb2 => ?_) (fun rb2 => ?_)
        · have hb2 := rb2
          try simp only [beq_iff_eq, bne_iff_ne, ne_eq, bne_eq_false_iff_eq, beq_eq_false_iff_ne, decide_eq_true_eq, decide_eq_false_iff_not, Bool.not_eq_true', Bool.not_eq_false', Bool.or_eq_true, Bool.and_eq_true, Bool.or_eq_false_iff, Bool.and_eq_false_iff] at hb2
          refine vwp_seq_region rfl fun K hK => ?_
          simp (dsimp := false) only [push_cast, hP, hnt, hgw, hgb, Nat.reduceLT, Nat.reduceEqDiff, Nat.reduceAdd, Nat.reduceSub, Nat.reduceMul, Nat.reduceLeDiff, ↓reduceIte, reduceCtorEq, Int.toNat_natCast, hm1, hm2, hm3, hrf, hi0, hw, hd, hb1, hf1, hs1]
          refine hK _ ?_; clear hK
          refine vwp_ret ?_
          refine ret_free (by simp (dsimp := false) only [push_cast, hP, hnt, hgw, hgb, Nat.reduceLT, Nat.reduceEqDiff, Nat.reduceAdd, Nat.reduceSub, Nat.reduceMul, Nat.reduceLeDiff, ↓reduceIte, reduceCtorEq, Int.toNat_natCast, hm1, hm2, hm3, hrf, hi0, hw, hd, hb1, hf1, hs1]; rfl) (by simp (dsimp := false) only [push_cast, hP, hnt, hgw, hgb, Nat.reduceLT, Nat.reduceEqDiff, Nat.reduceAdd, Nat.reduceSub, Nat.reduceMul, Nat.reduceLeDiff, ↓reduceIte, reduceCtorEq, Int.toNat_natCast, hm1, hm2, hm3, hrf, hi0, hw, hd, hb1, hf1, hs1]) ?_
          exact absurd (show (textF (atI l i).1 (atI l i).2).2 = 0 by rw [textF_snd]; exact firstE_mem (checksF_zero (by simpa using hb0)).2 _ (atI_mem hi0 hb1)) (by simpa using hb2)
        · have hb2 := rb2
          try simp only [beq_iff_eq, bne_iff_ne, ne_eq, bne_eq_false_iff_eq, beq_eq_false_iff_ne, decide_eq_true_eq, decide_eq_false_iff_not, Bool.not_eq_true', Bool.not_eq_false', Bool.or_eq_true, Bool.and_eq_true, Bool.or_eq_false_iff, Bool.and_eq_false_iff] at hb2
          refine vwp_skip ?_
          apply_assumption
          refine vwp_region rfl ?_
          simp (dsimp := false) only [push_cast, hP, hnt, hgw, hgb, Nat.reduceLT, Nat.reduceEqDiff, Nat.reduceAdd, Nat.reduceSub, Nat.reduceMul, Nat.reduceLeDiff, ↓reduceIte, reduceCtorEq, Int.toNat_natCast, hm1, hm2, hm3, hrf, hi0, hw, hd, hb1, hf1, hs1]
          apply_assumption
          refine vwp_region rfl ?_
          simp (dsimp := false) only [push_cast, hP, hnt, hgw, hgb, Nat.reduceLT, Nat.reduceEqDiff, Nat.reduceAdd, Nat.reduceSub, Nat.reduceMul, Nat.reduceLeDiff, ↓reduceIte, reduceCtorEq, Int.toNat_natCast, hm1, hm2, hm3, hrf, hi0, hw, hd, hb1, hf1, hs1]
          have hn : rowPut textC (PC.c (Value.string ⟨#[]⟩)) l i.toNat (textC (atI l i)) = rowAt textC (PC.c (Value.string ⟨#[]⟩)) l (i + 1).toNat := rowAt_next hi0 hb1
          refine hL0 _ _ _ ?_ ?_ ⟨i + 1, rfl, ?_, rfl⟩
          · omega
          · refine wk_conv [] [((18, 0), (18, 0))] (by simp) (by simp) (by decide) ?_ ?_
            · refine hf_cons (by simp (dsimp := false) only [push_cast, ↓reduceIte, Nat.reduceEqDiff, Nat.reduceAdd, reduceCtorEq, Int.toNat_natCast, hm1, hm2, hm3, hrf, hi0, hw, hd, hb1, hf1, hs1, hn] <;> rfl) (by exact .one (.own (by simp))) ?_
              refine hf_cons (by simp (dsimp := false) only [push_cast, ↓reduceIte, Nat.reduceEqDiff, Nat.reduceAdd, reduceCtorEq, Int.toNat_natCast, hm1, hm2, hm3, hrf, hi0, hw, hd, hb1, hf1, hs1, hn] <;> rfl) (by repeat' (first | exact ConvVs.nil | exact ConvL.nil | refine ConvV.tup ?_ | refine ConvVs.cons ?_ ?_ | (refine ConvV.self ?_; simp only [push_cast, hrf]; done) | refine ConvV.one ?_ | refine ConvV.agg ?_ | (refine ConvL.free ?_; simp only [push_cast, hrf]; done) | refine ConvL.append ?_ ?_ | refine ConvL.cons ?_ ?_ | exact Conv.free rfl | exact Conv.nil | (refine Conv.own ?_; simp; done) | (refine Conv.loc ?_; simp; done) | refine Conv.frz (by simp) (by simp (dsimp := false) only [push_cast, ↓reduceIte, Nat.reduceEqDiff, Nat.reduceAdd, reduceCtorEq, Int.toNat_natCast, hm1, hm2, hm3, hrf, hi0, hw, hd, hb1, hf1, hs1, hn] <;> rfl) ?_ | refine Conv.sl (by simp) ?_ | refine Conv.fn ?_)) ?_
              refine hf_cons (by simp (dsimp := false) only [push_cast, ↓reduceIte, Nat.reduceEqDiff, Nat.reduceAdd, reduceCtorEq, Int.toNat_natCast, hm1, hm2, hm3, hrf, hi0, hw, hd, hb1, hf1, hs1, hn] <;> rfl) (by exact ConvV.self rfl) ?_
              refine hf_cons (by simp (dsimp := false) only [push_cast, ↓reduceIte, Nat.reduceEqDiff, Nat.reduceAdd, reduceCtorEq, Int.toNat_natCast, hm1, hm2, hm3, hrf, hi0, hw, hd, hb1, hf1, hs1, hn] <;> rfl) (by exact ConvV.self rfl) ?_
              exact hf_nil
            · refine hh_cons (i := (18, 0)) (by simp) (by simp) (by simp (dsimp := false) only [push_cast, ↓reduceIte, Nat.reduceEqDiff, Nat.reduceAdd, reduceCtorEq, Int.toNat_natCast, hm1, hm2, hm3, hrf, hi0, hw, hd, hb1, hf1, hs1, hn] <;> rfl) (by first | (refine ConvB.free ?_; simp only [push_cast, hrf]; done) | (refine ConvB.arr ?_; repeat' (first | exact ConvVs.nil | exact ConvL.nil | refine ConvV.tup ?_ | refine ConvVs.cons ?_ ?_ | (refine ConvV.self ?_; simp only [push_cast, hrf]; done) | refine ConvV.one ?_ | refine ConvV.agg ?_ | (refine ConvL.free ?_; simp only [push_cast, hrf]; done) | refine ConvL.append ?_ ?_ | refine ConvL.cons ?_ ?_ | exact Conv.free rfl | exact Conv.nil | (refine Conv.own ?_; simp; done) | (refine Conv.loc ?_; simp; done) | refine Conv.frz (by simp) (by simp (dsimp := false) only [push_cast, ↓reduceIte, Nat.reduceEqDiff, Nat.reduceAdd, reduceCtorEq, Int.toNat_natCast, hm1, hm2, hm3, hrf, hi0, hw, hd, hb1, hf1, hs1, hn] <;> rfl) ?_ | refine Conv.sl (by simp) ?_ | refine Conv.fn ?_))) ?_
              exact hh_nil
          · exact ⟨by omega, by omega⟩
      · have hb1 := rb1
        try simp only [beq_iff_eq, bne_iff_ne, ne_eq, bne_eq_false_iff_eq, beq_eq_false_iff_ne, decide_eq_true_eq, decide_eq_false_iff_not, Bool.not_eq_true', Bool.not_eq_false', Bool.or_eq_true, Bool.and_eq_true, Bool.or_eq_false_iff, Bool.and_eq_false_iff] at hb1
        have hend : rowAt textC (PC.c (Value.string ⟨#[]⟩)) l i.toNat = l.map fun p => PC.c (Value.string (textP p)) := by rw [show i.toNat = l.length by omega]; exact rowAt_end
        refine vwp_exit ?_
        simp only [thenQ, blockQ, Nat.reduceEqDiff, reduceIte]
        apply_assumption
        refine vwp_seq_region rfl fun K hK => ?_
        simp (dsimp := false) only [push_cast, hP, hnt, hgw, hgb, Nat.reduceLT, Nat.reduceEqDiff, Nat.reduceAdd, Nat.reduceSub, Nat.reduceMul, Nat.reduceLeDiff, ↓reduceIte, reduceCtorEq, Int.toNat_natCast, hm1, hm2, hm3, hrf, hi0, hend]
        refine .inl (callE_intro (joinP_call gw gb l (by simpa using hb0)) (.inl ⟨rfl, rfl⟩) ?_)
        simp (dsimp := false) only [push_cast, hP, hnt, hgw, hgb, Nat.reduceLT, Nat.reduceEqDiff, Nat.reduceAdd, Nat.reduceSub, Nat.reduceMul, Nat.reduceLeDiff, ↓reduceIte, reduceCtorEq, Int.toNat_natCast, hm1, hm2, hm3, hrf, hi0, hend]
        refine hK _ ?_; clear hK
        refine vwp_ret ?_
        refine ret_free (by simp (dsimp := false) only [push_cast, hP, hnt, hgw, hgb, Nat.reduceLT, Nat.reduceEqDiff, Nat.reduceAdd, Nat.reduceSub, Nat.reduceMul, Nat.reduceLeDiff, ↓reduceIte, reduceCtorEq, Int.toNat_natCast, hm1, hm2, hm3, hrf, hi0, hend]; rfl) (by simp (dsimp := false) only [push_cast, hP, hnt, hgw, hgb, Nat.reduceLT, Nat.reduceEqDiff, Nat.reduceAdd, Nat.reduceSub, Nat.reduceMul, Nat.reduceLeDiff, ↓reduceIte, reduceCtorEq, Int.toNat_natCast, hm1, hm2, hm3, hrf, hi0, hend]) ?_
        rw [passesF_ok (by simpa using hb0)]; rfl
end Go.Vm
end
