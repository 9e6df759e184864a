/-
  Abstract states over the model's worlds, and that a step of them is a step of the program: part G of a framework. Conditions: each theorem's own premises. By an AI agent.
-/
import Derived.Test.YtnpbndglolcilaaDoorVmF
namespace Go.Vm
open Go Go.RowKit
set_option linter.unusedVariables false
set_option linter.unusedSimpArgs false
section
variable {ρ : Operand → Option PV} {H : Id → Option Blk} {C : Ctx} {φ φ' : Id → Option Value} {F : Bool → Nat → Prop} {F0 F1 : Nat → Prop} {σ : St} {a : Act} {w w' : World} {P : Program} {i : Id} {p : PV} {ob : Option Blk}

theorem none_out {x : Value} (h : repV φ w F p x) : AddOut φ w F i p none x w := ⟨rfl, h⟩

def Runs (C : Ctx) (φ : Id → Option Value) (F : Bool → Nat → Prop) (i : Id) (a : Act) (w : World) (o : Oper) (p : PV) (ob : Option Blk) : Prop :=
  ∃ x w', (execOp a.eval o).run C.P w = .ok (.value x) w' ∧ AddOut φ w F i p ob x w'

variable {d : Option Tmp} {ty : TypeId} {pos : String} {af : Array Edge} {gd : Option (Nat × Bool)}

theorem vAdd_pick (h : RelX C φ F0 F1 σ a w) (V : View φ w (Fs F0 F1) a σ ρ H) {c x y : Operand} (hv : vAdd C.P i ρ H (.pick c x y) = some (p, ob)) :
    Runs C φ (Fs F0 F1) i a w ⟨d, .pick c x y, ty, pos, af, gd⟩ p ob := by
  simp only [vAdd] at hv
  split at hv
  · rename_i hc
    obtain ⟨pc, hc1, hc2⟩ := Option.bind_eq_some_iff.1 hc
    obtain ⟨q, hq, he⟩ := Option.map_eq_some_iff.1 hv
    cases he
    exact ⟨_, w, by simp [execOp, asB_rep (V.ev hc1) hc2, asBool], none_out (V.ev hq)⟩
  · rename_i hc
    obtain ⟨pc, hc1, hc2⟩ := Option.bind_eq_some_iff.1 hc
    obtain ⟨q, hq, he⟩ := Option.map_eq_some_iff.1 hv
    cases he
    exact ⟨_, w, by simp [execOp, asB_rep (V.ev hc1) hc2, asBool], none_out (V.ev hq)⟩
  · cases hv

theorem vAdd_alloc (h : RelX C φ F0 F1 σ a w) (V : View φ w (Fs F0 F1) a σ ρ H) (hn : φ i = none) {t : TypeId} (hv : vAdd C.P i ρ H (.alloc t) = some (p, ob)) :
    Runs C φ (Fs F0 F1) i a w ⟨d, .alloc t, ty, pos, af, gd⟩ p ob := by
  simp only [vAdd] at hv
  obtain ⟨cs, hc, he⟩ := Option.map_eq_some_iff.1 hv
  cases he
  obtain ⟨z, hz, rfl, hr⟩ := zero_rep (φ := φ) (w := w) (F := Fs F0 F1) hc
  refine ⟨_, _, ?_, box_out h hn hr⟩
  simp [execOp, Instr.alloc, run_zeroValue' hz, newVar, newRow]

theorem vAdd_box (h : RelX C φ F0 F1 σ a w) (V : View φ w (Fs F0 F1) a σ ρ H) (hn : φ i = none) {t : TypeId} {x : Operand} (hv : vAdd C.P i ρ H (.box t x) = some (p, ob)) :
    Runs C φ (Fs F0 F1) i a w ⟨d, .box t x, ty, pos, af, gd⟩ p ob := by
  simp only [vAdd] at hv
  obtain ⟨cs, hc, he⟩ := Option.map_eq_some_iff.1 hv
  cases he
  obtain ⟨q, hq, hc⟩ := Option.bind_eq_some_iff.1 hc
  refine ⟨_, _, ?_, box_out h hn (cells_rep (V.ev hq) hc)⟩
  simp [execOp, Instr.box, newVar, newRow]

theorem vAdd_load (h : RelX C φ F0 F1 σ a w) (V : View φ w (Fs F0 F1) a σ ρ H) {t : TypeId} {x : Operand} (hv : vAdd C.P i ρ H (.load t x) = some (p, ob)) :
    Runs C φ (Fs F0 F1) i a w ⟨d, .load t x, ty, pos, af, gd⟩ p ob := by
  simp only [vAdd] at hv
  obtain ⟨ys, hy, hv⟩ := Option.bind_eq_some_iff.1 hv
  obtain ⟨q, hq, hy⟩ := Option.bind_eq_some_iff.1 hy
  obtain ⟨r, hr, he⟩ := Option.map_eq_some_iff.1 hv
  cases he
  obtain ⟨ad, hx, hy⟩ := behind_rep h V.heap (V.ev hq) hy
  obtain ⟨v, hl, hr⟩ := run_takeT (P := C.P) hy hr
  exact ⟨v, w, by simp [execOp, Instr.loadAt, hx, Instr.sureAddr, hl], none_out hr⟩

theorem vAdd_nilCheck (h : RelX C φ F0 F1 σ a w) (V : View φ w (Fs F0 F1) a σ ρ H) {x : Operand} (hv : vAdd C.P i ρ H (.nilCheck x) = some (p, ob)) :
    Runs C φ (Fs F0 F1) i a w ⟨d, .nilCheck x, ty, pos, af, gd⟩ p ob := by
  simp only [vAdd] at hv
  split at hv
  · rename_i j off hx
    cases hv
    have hr := V.ev hx
    have hr' := hr
    simp only [repV, rep] at hr
    obtain ⟨u, g, _, _, hx⟩ := hr
    exact ⟨a.eval x, w, by simp [execOp, hx], none_out hr'⟩
  · rename_i t ys hx
    cases hv
    have hr := V.ev hx
    have hr' := hr
    simp only [repV, rep] at hr
    obtain ⟨ad, hx, _⟩ := hr
    exact ⟨a.eval x, w, by simp [execOp, hx], none_out hr'⟩
  · cases hv

theorem vbin_one {op : BinOp} {t : TypeId} {u v r : Value} (h : vbin P op t u v = some r) : r.oneCell' = true := by
  unfold vbin at h
  split at h
  · split at h
    · cases op <;> simp only [vbinI] at h <;> first
        | (cases h; rfl)
        | (split at h <;> cases h; rfl)
    · cases h
  · cases op <;> simp only [vbinS] at h <;> first
      | (cases h; rfl)
      | (cases h; done)
      | (split at h <;> cases h; rfl)
  · split at h
    · split at h
      · cases h; rfl
      · cases h
    · split at h
      · cases h; rfl
      · cases h
    · cases h
  · cases h

theorem run_eqScalar {t : TypeId} {u v : Value} {b : Bool} (d : Nat) (h : eqScalar P t u v = some b) : (Op.equalIn (d + 1) t u v).run P w = .ok b w := by
  unfold eqScalar at h
  split at h
  · rename_i hu
    split at h
    · rename_i hk
      cases h
      subst hk
      exact run_equalIn_int w d t _ _ _ _ hu
    · cases h
  · rename_i hu
    cases h
    exact run_equalIn_string w d t _ _ hu
  · rename_i hu
    cases h
    exact run_equalIn_bool' w d t _ _ hu
  · cases h

theorem run_eqFieldsT {ps qs : List PC} {xs ys : Array Value} (hx : reps φ w F ps xs.toList) (hy : reps φ w F qs ys.toList) (d : Nat) : ∀ (fs : List Field) (b : Bool), eqFieldsT P ps qs fs = some b → (Op.eqFields (d + 1) xs ys fs).run P w = .ok b w
  | [], b, h => by simp only [eqFieldsT] at h; cases h; simp [Op.eqFields]
  | f :: fs, b, h => by
    simp only [eqFieldsT] at h
    split at h
    · rename_i hn
      split at h
      · rename_i u v hu hv ha
        split at h
        · rename_i b1 r hb hr
          cases h
          obtain ⟨x', hx1, hx2⟩ := reps_get _ _ hx _ _ hu
          obtain ⟨y', hy1, hy2⟩ := reps_get _ _ hy _ _ hv
          simp only [rep] at hx2 hy2
          obtain ⟨rfl, _⟩ := hx2
          obtain ⟨rfl, _⟩ := hy2
          have hx1' : xs[f.offset]? = some x' := by simpa using hx1
          have hy1' : ys[f.offset]? = some y' := by simpa using hy1
          simp only [Op.eqFields, if_pos hn, part, Sem.run_bind, run_isAgg' ha, Result.andThen_ok, Bool.false_eq_true, if_false, hx1', hy1', Sem.run_pure, run_eqScalar d hb]
          cases b1
          · simp
          · simpa using run_eqFieldsT hx hy d fs r hr
        · cases h
      · cases h
    · cases h

theorem run_vbinA {op : BinOp} {t : TypeId} {ps qs : List PC} {r : Value} {xs ys : Array Value} (h : vbinA P op t ps qs = some r) (hx : reps φ w F ps xs.toList) (hy : reps φ w F qs ys.toList) :
    ∃ b, r = .bool b ∧ (∀ x y, (eqGuard op t x y (.agg xs) (.agg ys)).run P w = .ok () w) ∧ (binOp op t (.agg xs) (.agg ys)).run P w = .ok r w := by
  unfold vbinA at h
  split at h
  · rename_i fs hu
    split at h
    · rename_i hok
      simp only [eqOkT, Bool.and_eq_true, Bool.not_eq_true'] at hok
      have hfo : P.fieldsOf t = fs := by simp [Program.fieldsOf, hu]
      have heq : ∀ b, eqFieldsT P ps qs fs.toList = some b → (Op.equalIn 10000 t (.agg xs) (.agg ys)).run P w = .ok b w := by
        intro b hb
        rw [run_equalIn_agg w 9999 t xs ys (by rw [hfo]; exact hu) hok.1, hfo]
        exact run_eqFieldsT hx hy 9998 _ _ hb
      split at h
      · rename_i b hb
        cases h
        exact ⟨b, rfl, fun x y => run_eqGuard_agg w _ t x y xs ys hok.2, by rw [run_eql_struct, heq b hb]; rfl⟩
      · rename_i b hb
        cases h
        exact ⟨_, rfl, fun x y => run_eqGuard_agg w _ t x y xs ys hok.2, by rw [run_neq_struct, heq b hb]; rfl⟩
      · cases h
    · cases h
  · cases h

theorem vAdd_binOp (h : RelX C φ F0 F1 σ a w) (V : View φ w (Fs F0 F1) a σ ρ H) {op : BinOp} {t t' : TypeId} {x y : Operand} (hv : vAdd C.P i ρ H (.binOp op t x y t') = some (p, ob)) :
    Runs C φ (Fs F0 F1) i a w ⟨d, .binOp op t x y t', ty, pos, af, gd⟩ p ob := by
  simp only [vAdd] at hv
  split at hv
  · rename_i u v hx hy
    obtain ⟨r, hr, he⟩ := Option.map_eq_some_iff.1 hv
    cases he
    have hx' := V.ev hx
    have hy' := V.ev hy
    simp only [repV, rep] at hx' hy'
    refine ⟨r, w, ?_, none_out (by simp only [repV, rep]; exact ⟨trivial, vbin_one hr⟩)⟩
    simp [execOp, hx'.1, hy'.1, eqGuard_plain hr, run_vbin hr]
  · rename_i ps qs hx hy
    obtain ⟨r, hr, he⟩ := Option.map_eq_some_iff.1 hv
    cases he
    have hx' := V.ev hx
    have hy' := V.ev hy
    simp only [repV] at hx' hy'
    obtain ⟨xs, hx', hxr⟩ := hx'
    obtain ⟨ys, hy', hyr⟩ := hy'
    obtain ⟨b, hrb, hg, hrun⟩ := run_vbinA (w := w) hr hxr hyr
    refine ⟨r, w, ?_, none_out (by simp only [repV, rep]; exact ⟨trivial, by rw [hrb]; rfl⟩)⟩
    simp [execOp, hx', hy', hg x y, hrun]
  · cases hv

theorem vAdd_unOp (h : RelX C φ F0 F1 σ a w) (V : View φ w (Fs F0 F1) a σ ρ H) {op : UnOp} {t : TypeId} {x : Operand} (hv : vAdd C.P i ρ H (.unOp op t x) = some (p, ob)) :
    Runs C φ (Fs F0 F1) i a w ⟨d, .unOp op t x, ty, pos, af, gd⟩ p ob := by
  simp only [vAdd] at hv
  split at hv
  · rename_i u hx
    obtain ⟨r, hr, he⟩ := Option.map_eq_some_iff.1 hv
    cases he
    have hx' := V.ev hx
    simp only [repV, rep] at hx'
    refine ⟨r, w, ?_, none_out (by
      simp only [repV, rep]
      refine ⟨trivial, ?_⟩
      unfold vun at hr
      split at hr <;> cases hr <;> rfl)⟩
    simp [execOp, hx'.1, run_vun hr]
  · cases hv

theorem vAdd_convert (h : RelX C φ F0 F1 σ a w) (V : View φ w (Fs F0 F1) a σ ρ H) {s t : TypeId} {x : Operand} (hv : vAdd C.P i ρ H (.convert s t x) = some (p, ob)) :
    Runs C φ (Fs F0 F1) i a w ⟨d, .convert s t x, ty, pos, af, gd⟩ p ob := by
  simp only [vAdd] at hv
  split at hv
  · rename_i k0 n d' k hx hs hd
    cases hv
    obtain ⟨q, hq, hx⟩ := Option.bind_eq_some_iff.1 hx
    refine ⟨.int k (k.wrap n), w, ?_, none_out (by simp only [repV, rep]; exact ⟨trivial, rfl⟩)⟩
    simp [execOp, asI_rep (V.ev hq) hx, convert, run_underlying hs, run_underlying hd, Conv.intToInt]
  · cases hv

theorem repVs_get : ∀ (ps : List PV) (xs : List Value), repVs φ w F ps xs → ∀ (j : Nat) (p : PV), ps[j]? = some p → ∃ v, xs[j]? = some v ∧ repV φ w F p v
  | [], xs, _, j, p, hp => by simp at hp
  | q :: ps, xs, h, j, p, hp => by
    simp only [repVs] at h
    obtain ⟨v, vs', rfl, hr, h⟩ := h
    cases j with
    | zero => simp at hp; subst hp; exact ⟨v, rfl, hr⟩
    | succ j => simpa using repVs_get ps vs' h j p (by simpa using hp)

theorem vAdd_extract (h : RelX C φ F0 F1 σ a w) (V : View φ w (Fs F0 F1) a σ ρ H) {x : Operand} {j : Nat} (hv : vAdd C.P i ρ H (.extract x j) = some (p, ob)) :
    Runs C φ (Fs F0 F1) i a w ⟨d, .extract x j, ty, pos, af, gd⟩ p ob := by
  simp only [vAdd] at hv
  split at hv
  · rename_i vs hx
    obtain ⟨r, hr, he⟩ := Option.map_eq_some_iff.1 hv
    cases he
    have hx' := V.ev hx
    simp only [repV] at hx'
    obtain ⟨xs, hx', hrs⟩ := hx'
    obtain ⟨v, hv, hr'⟩ := repVs_get _ _ hrs j _ hr
    exact ⟨v, w, by
      have : xs[j]? = some v := by simpa using hv
      simp [execOp, hx', Instr.extract, this], none_out hr'⟩
  · cases hv

theorem vAdd_fieldAddr (h : RelX C φ F0 F1 σ a w) (V : View φ w (Fs F0 F1) a σ ρ H) {s : TypeId} {x : Operand} {f : Nat} (hv : vAdd C.P i ρ H (.fieldAddr s x f) = some (p, ob)) :
    Runs C φ (Fs F0 F1) i a w ⟨d, .fieldAddr s x f, ty, pos, af, gd⟩ p ob := by
  simp only [vAdd] at hv
  split at hv
  · rename_i fd hf
    split at hv
    · rename_i m hs
      obtain ⟨q, hq, he⟩ := Option.map_eq_some_iff.1 hv
      cases he
      obtain ⟨r, hr, hq⟩ := Option.bind_eq_some_iff.1 hq
      obtain ⟨ad, hx, hr'⟩ := shiftA_rep (V.ev hr) hq
      refine ⟨_, w, ?_, none_out hr'⟩
      unfold fieldT at hf
      split at hf
      · rename_i fs hu
        simp [execOp, Instr.fieldAt, run_underlying hu, hf, hx, Instr.sureAddr, fieldPlace, run_sizeOf' hs]
      · cases hf
    · cases hv
  · cases hv

theorem vAdd_field (h : RelX C φ F0 F1 σ a w) (V : View φ w (Fs F0 F1) a σ ρ H) {t : TypeId} {x : Operand} {f : Nat} (hv : vAdd C.P i ρ H (.field t x f) = some (p, ob)) :
    Runs C φ (Fs F0 F1) i a w ⟨d, .field t x f, ty, pos, af, gd⟩ p ob := by
  simp only [vAdd] at hv
  split at hv
  · rename_i fd ps hf hx
    obtain ⟨q, hq, he⟩ := Option.map_eq_some_iff.1 hv
    cases he
    have hx' := V.ev hx
    simp only [repV] at hx'
    obtain ⟨vs, hx', hrs⟩ := hx'
    unfold fieldT at hf
    split at hf
    · rename_i fs hu
      unfold takeT at hq
      split at hq
      · rename_i hagg
        split at hq
        · rename_i sz hs
          split at hq
          · cases hq
            rename_i hle
            refine ⟨.agg (vs.extract fd.offset (fd.offset + sz)), w, ?_, none_out ?_⟩
            · simp [execOp, Instr.field, run_underlying hu, hf, hx', asAgg, part, run_isAgg' hagg, run_sizeOf' hs]
            · simp only [repV]
              refine ⟨_, rfl, ?_⟩
              have := reps_take (reps_drop hrs fd.offset) sz
              simpa [Array.toList_extract, List.extract_eq_take_drop] using this
          · cases hq
        · cases hq
      · rename_i hagg
        split at hq
        · rename_i q qs hd
          cases hq
          have hq0 : ps[fd.offset]? = some q := by
            have : (ps.drop fd.offset)[0]? = some q := by rw [hd]; rfl
            simpa using this
          obtain ⟨v, hv, hr⟩ := reps_get _ _ hrs _ _ hq0
          refine ⟨v, w, ?_, none_out (by simpa [repV] using hr)⟩
          have hv' : vs[fd.offset]? = some v := by simpa using hv
          simp [execOp, Instr.field, run_underlying hu, hf, hx', asAgg, part, run_isAgg' hagg, hv']
        · cases hq
      · cases hq
    · cases hf
  · cases hv
end
end Go.Vm
