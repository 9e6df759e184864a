/-
  Abstract states over the model's worlds, and that a step of them is a step of the program: part VmAB of a framework. Conditions: each theorem's own premises. By an AI agent.
-/
import Derived.Test.YtcdbbiognijleaaGreatVmAA
import Derived.MapKept
section
namespace Go.Vm
open Go Go.RowKit
set_option linter.unusedVariables false
set_option linter.unusedSimpArgs false
section
variable {ρ : Operand → Option PV} {H : Id → Option Blk} {C : Ctx} {φ φ' : Id → Option Value} {F : Bool → Nat → Prop} {F0 F1 : Nat → Prop} {σ : St} {a : Act} {w w' : World} {P : Program} {i : Id} {p : PV} {ob : Option Blk}

theorem none_out {x : Value} (h : repV φ w F p x) : AddOut φ w F i p none x w := ⟨rfl, h⟩

def Runs (C : Ctx) (φ : Id → Option Value) (F : Bool → Nat → Prop) (i : Id) (a : Act) (w : World) (o : Oper) (p : PV) (ob : Option Blk) : Prop :=
  ∃ x w', (execOp a.eval o).run C.P w = .ok (.value x) w' ∧ AddOut φ w F i p ob x w'

variable {d : Option Tmp} {ty : TypeId} {pos : String} {af : Array Edge} {gd : Option (Nat × Bool)}

theorem vAdd_pick (h : RelX C φ F0 F1 σ a w) (V : View φ w (Fs F0 F1) a σ ρ H) {c x y : Operand} (hv : vAdd C.P i ρ H (.pick c x y) = some (p, ob)) :
    Runs C φ (Fs F0 F1) i a w ⟨d, .pick c x y, ty, pos, af, gd⟩ p ob := by
  simp only [vAdd] at hv
  split at hv
  · rename_i hc
    obtain ⟨pc, hc1, hc2⟩ := Option.bind_eq_some_iff.1 hc
    obtain ⟨q, hq, he⟩ := Option.map_eq_some_iff.1 hv
    cases he
    exact ⟨_, w, by simp [execOp, asB_rep (V.ev hc1) hc2, asBool], none_out (V.ev hq)⟩
  · rename_i hc
    obtain ⟨pc, hc1, hc2⟩ := Option.bind_eq_some_iff.1 hc
    obtain ⟨q, hq, he⟩ := Option.map_eq_some_iff.1 hv
    cases he
    exact ⟨_, w, by simp [execOp, asB_rep (V.ev hc1) hc2, asBool], none_out (V.ev hq)⟩
  · cases hv

theorem vAdd_alloc (h : RelX C φ F0 F1 σ a w) (V : View φ w (Fs F0 F1) a σ ρ H) (hn : φ i = none) {t : TypeId} (hv : vAdd C.P i ρ H (.alloc t) = some (p, ob)) :
    Runs C φ (Fs F0 F1) i a w ⟨d, .alloc t, ty, pos, af, gd⟩ p ob := by
  simp only [vAdd] at hv
  obtain ⟨cs, hc, he⟩ := Option.map_eq_some_iff.1 hv
  cases he
  obtain ⟨z, hz, rfl, hr⟩ := zero_rep (φ := φ) (w := w) (F := Fs F0 F1) hc
  refine ⟨_, _, ?_, box_out h hn hr⟩
  simp [execOp, Instr.alloc, run_zeroValue' hz, newVar, newRow]

theorem vAdd_box (h : RelX C φ F0 F1 σ a w) (V : View φ w (Fs F0 F1) a σ ρ H) (hn : φ i = none) {t : TypeId} {x : Operand} (hv : vAdd C.P i ρ H (.box t x) = some (p, ob)) :
    Runs C φ (Fs F0 F1) i a w ⟨d, .box t x, ty, pos, af, gd⟩ p ob := by
  simp only [vAdd] at hv
  obtain ⟨cs, hc, he⟩ := Option.map_eq_some_iff.1 hv
  cases he
  obtain ⟨q, hq, hc⟩ := Option.bind_eq_some_iff.1 hc
  refine ⟨_, _, ?_, box_out h hn (cells_rep (V.ev hq) hc)⟩
  simp [execOp, Instr.box, newVar, newRow]

theorem vAdd_load (h : RelX C φ F0 F1 σ a w) (V : View φ w (Fs F0 F1) a σ ρ H) {t : TypeId} {x : Operand} (hv : vAdd C.P i ρ H (.load t x) = some (p, ob)) :
    Runs C φ (Fs F0 F1) i a w ⟨d, .load t x, ty, pos, af, gd⟩ p ob := by
  simp only [vAdd] at hv
  obtain ⟨ys, hy, hv⟩ := Option.bind_eq_some_iff.1 hv
  obtain ⟨q, hq, hy⟩ := Option.bind_eq_some_iff.1 hy
  obtain ⟨r, hr, he⟩ := Option.map_eq_some_iff.1 hv
  cases he
  obtain ⟨ad, hx, hy⟩ := behind_rep h V.heap (V.ev hq) hy
  obtain ⟨v, hl, hr⟩ := run_takeT (P := C.P) hy hr
  exact ⟨v, w, by simp [execOp, Instr.loadAt, hx, Instr.sureAddr, hl], none_out hr⟩

theorem vAdd_nilCheck (h : RelX C φ F0 F1 σ a w) (V : View φ w (Fs F0 F1) a σ ρ H) {x : Operand} (hv : vAdd C.P i ρ H (.nilCheck x) = some (p, ob)) :
    Runs C φ (Fs F0 F1) i a w ⟨d, .nilCheck x, ty, pos, af, gd⟩ p ob := by
  simp only [vAdd] at hv
  split at hv
  · rename_i j off hx
    cases hv
    have hr := V.ev hx
    have hr' := hr
    simp only [repV, rep] at hr
    obtain ⟨u, g, _, _, hx⟩ := hr
    exact ⟨a.eval x, w, by simp [execOp, hx], none_out hr'⟩
  · rename_i t ys hx
    cases hv
    have hr := V.ev hx
    have hr' := hr
    simp only [repV, rep] at hr
    obtain ⟨ad, hx, _⟩ := hr
    exact ⟨a.eval x, w, by simp [execOp, hx], none_out hr'⟩
  · cases hv

theorem vbin_one {op : BinOp} {t : TypeId} {u v r : Value} (h : vbin P op t u v = some r) : r.oneCell' = true := by
  unfold vbin at h
  split at h
  · split at h
    · cases op <;> simp only [vbinI] at h <;> first
        | (cases h; rfl)
        | (split at h <;> cases h; rfl)
    · cases h
  · cases op <;> simp only [vbinS] at h <;> first
      | (cases h; rfl)
      | (cases h; done)
      | (split at h <;> cases h; rfl)
  · split at h
    · split at h
      · cases h; rfl
      · cases h
    · split at h
      · cases h; rfl
      · cases h
    · cases h
  · cases h

theorem run_eqScalar {t : TypeId} {u v : Value} {b : Bool} (d : Nat) (h : eqScalar P t u v = some b) : (Op.equalIn (d + 1) t u v).run P w = .ok b w := by
  unfold eqScalar at h
  split at h
  · rename_i hu
    split at h
    · rename_i hk
      cases h
      subst hk
      exact run_equalIn_int w d t _ _ _ _ hu
    · cases h
  · rename_i hu
    cases h
    exact run_equalIn_string w d t _ _ hu
  · rename_i hu
    cases h
    exact run_equalIn_bool' w d t _ _ hu
  · cases h

theorem run_eqFieldsT {ps qs : List PC} {xs ys : Array Value} (hx : reps φ w F ps xs.toList) (hy : reps φ w F qs ys.toList) (d : Nat) : ∀ (fs : List Field) (b : Bool), eqFieldsT P ps qs fs = some b → (Op.eqFields (d + 1) xs ys fs).run P w = .ok b w
  | [], b, h => by simp only [eqFieldsT] at h; cases h; simp [Op.eqFields]
  | f :: fs, b, h => by
    simp only [eqFieldsT] at h
    split at h
    · rename_i hn
      split at h
      · rename_i u v hu hv ha
        split at h
        · rename_i b1 r hb hr
          cases h
          obtain ⟨x', hx1, hx2⟩ := reps_get _ _ hx _ _ hu
          obtain ⟨y', hy1, hy2⟩ := reps_get _ _ hy _ _ hv
          simp only [rep] at hx2 hy2
          obtain ⟨rfl, _⟩ := hx2
          obtain ⟨rfl, _⟩ := hy2
          have hx1' : xs[f.offset]? = some x' := by simpa using hx1
          have hy1' : ys[f.offset]? = some y' := by simpa using hy1
          simp only [Op.eqFields, if_pos hn, part, Sem.run_bind, run_isAgg' ha, Result.andThen_ok, Bool.false_eq_true, if_false, hx1', hy1', Sem.run_pure, run_eqScalar d hb]
          cases b1
          · simp
          · simpa using run_eqFieldsT hx hy d fs r hr
        · cases h
      · cases h
    · cases h

theorem run_vbinA {op : BinOp} {t : TypeId} {ps qs : List PC} {r : Value} {xs ys : Array Value} (h : vbinA P op t ps qs = some r) (hx : reps φ w F ps xs.toList) (hy : reps φ w F qs ys.toList) :
    ∃ b, r = .bool b ∧ (∀ x y, (eqGuard op t x y (.agg xs) (.agg ys)).run P w = .ok () w) ∧ (binOp op t (.agg xs) (.agg ys)).run P w = .ok r w := by
  unfold vbinA at h
  split at h
  · rename_i fs hu
    split at h
    · rename_i hok
      simp only [eqOkT, Bool.and_eq_true, Bool.not_eq_true'] at hok
      have hfo : P.fieldsOf t = fs := by simp [Program.fieldsOf, hu]
      have heq : ∀ b, eqFieldsT P ps qs fs.toList = some b → (Op.equalIn 10000 t (.agg xs) (.agg ys)).run P w = .ok b w := by
        intro b hb
        rw [run_equalIn_agg w 9999 t xs ys (by rw [hfo]; exact hu) hok.1, hfo]
        exact run_eqFieldsT hx hy 9998 _ _ hb
      split at h
      · rename_i b hb
        cases h
        exact ⟨b, rfl, fun x y => run_eqGuard_agg w _ t x y xs ys hok.2, by rw [run_eql_struct, heq b hb]; rfl⟩
      · rename_i b hb
        cases h
        exact ⟨_, rfl, fun x y => run_eqGuard_agg w _ t x y xs ys hok.2, by rw [run_neq_struct, heq b hb]; rfl⟩
      · cases h
    · cases h
  · cases h

theorem vAdd_binOp (h : RelX C φ F0 F1 σ a w) (V : View φ w (Fs F0 F1) a σ ρ H) {op : BinOp} {t t' : TypeId} {x y : Operand} (hv : vAdd C.P i ρ H (.binOp op t x y t') = some (p, ob)) :
    Runs C φ (Fs F0 F1) i a w ⟨d, .binOp op t x y t', ty, pos, af, gd⟩ p ob := by
  simp only [vAdd] at hv
  split at hv
  · rename_i u v hx hy
    obtain ⟨r, hr, he⟩ := Option.map_eq_some_iff.1 hv
    cases he
    have hx' := V.ev hx
    have hy' := V.ev hy
    simp only [repV, rep] at hx' hy'
    refine ⟨r, w, ?_, none_out (by simp only [repV, rep]; exact ⟨trivial, vbin_one hr⟩)⟩
    simp [execOp, hx'.1, hy'.1, eqGuard_plain hr, run_vbin hr]
  · rename_i ps qs hx hy
    obtain ⟨r, hr, he⟩ := Option.map_eq_some_iff.1 hv
    cases he
    have hx' := V.ev hx
    have hy' := V.ev hy
    simp only [repV] at hx' hy'
    obtain ⟨xs, hx', hxr⟩ := hx'
    obtain ⟨ys, hy', hyr⟩ := hy'
    obtain ⟨b, hrb, hg, hrun⟩ := run_vbinA (w := w) hr hxr hyr
    refine ⟨r, w, ?_, none_out (by simp only [repV, rep]; exact ⟨trivial, by rw [hrb]; rfl⟩)⟩
    simp [execOp, hx', hy', hg x y, hrun]
  · cases hv

theorem vAdd_unOp (h : RelX C φ F0 F1 σ a w) (V : View φ w (Fs F0 F1) a σ ρ H) {op : UnOp} {t : TypeId} {x : Operand} (hv : vAdd C.P i ρ H (.unOp op t x) = some (p, ob)) :
    Runs C φ (Fs F0 F1) i a w ⟨d, .unOp op t x, ty, pos, af, gd⟩ p ob := by
  simp only [vAdd] at hv
  split at hv
  · rename_i u hx
    obtain ⟨r, hr, he⟩ := Option.map_eq_some_iff.1 hv
    cases he
    have hx' := V.ev hx
    simp only [repV, rep] at hx'
    refine ⟨r, w, ?_, none_out (by
      simp only [repV, rep]
      refine ⟨trivial, ?_⟩
      unfold vun at hr
      split at hr <;> cases hr <;> rfl)⟩
    simp [execOp, hx'.1, run_vun hr]
  · cases hv

theorem vAdd_convert (h : RelX C φ F0 F1 σ a w) (V : View φ w (Fs F0 F1) a σ ρ H) {s t : TypeId} {x : Operand} (hv : vAdd C.P i ρ H (.convert s t x) = some (p, ob)) :
    Runs C φ (Fs F0 F1) i a w ⟨d, .convert s t x, ty, pos, af, gd⟩ p ob := by
  simp only [vAdd] at hv
  split at hv
  · rename_i k0 n d' k hx hs hd
    cases hv
    obtain ⟨q, hq, hx⟩ := Option.bind_eq_some_iff.1 hx
    refine ⟨.int k (k.wrap n), w, ?_, none_out (by simp only [repV, rep]; exact ⟨trivial, rfl⟩)⟩
    simp [execOp, asI_rep (V.ev hq) hx, convert, run_underlying hs, run_underlying hd, Conv.intToInt]
  · cases hv

theorem repVs_get : ∀ (ps : List PV) (xs : List Value), repVs φ w F ps xs → ∀ (j : Nat) (p : PV), ps[j]? = some p → ∃ v, xs[j]? = some v ∧ repV φ w F p v
  | [], xs, _, j, p, hp => by simp at hp
  | q :: ps, xs, h, j, p, hp => by
    simp only [repVs] at h
    obtain ⟨v, vs', rfl, hr, h⟩ := h
    cases j with
    | zero => simp at hp; subst hp; exact ⟨v, rfl, hr⟩
    | succ j => simpa using repVs_get ps vs' h j p (by simpa using hp)

theorem vAdd_extract (h : RelX C φ F0 F1 σ a w) (V : View φ w (Fs F0 F1) a σ ρ H) {x : Operand} {j : Nat} (hv : vAdd C.P i ρ H (.extract x j) = some (p, ob)) :
    Runs C φ (Fs F0 F1) i a w ⟨d, .extract x j, ty, pos, af, gd⟩ p ob := by
  simp only [vAdd] at hv
  split at hv
  · rename_i vs hx
    obtain ⟨r, hr, he⟩ := Option.map_eq_some_iff.1 hv
    cases he
    have hx' := V.ev hx
    simp only [repV] at hx'
    obtain ⟨xs, hx', hrs⟩ := hx'
    obtain ⟨v, hv, hr'⟩ := repVs_get _ _ hrs j _ hr
    exact ⟨v, w, by
      have : xs[j]? = some v := by simpa using hv
      simp [execOp, hx', Instr.extract, this], none_out hr'⟩
  · cases hv

theorem vAdd_fieldAddr (h : RelX C φ F0 F1 σ a w) (V : View φ w (Fs F0 F1) a σ ρ H) {s : TypeId} {x : Operand} {f : Nat} (hv : vAdd C.P i ρ H (.fieldAddr s x f) = some (p, ob)) :
    Runs C φ (Fs F0 F1) i a w ⟨d, .fieldAddr s x f, ty, pos, af, gd⟩ p ob := by
  simp only [vAdd] at hv
  split at hv
  · rename_i fd hf
    split at hv
    · rename_i m hs
      obtain ⟨q, hq, he⟩ := Option.map_eq_some_iff.1 hv
      cases he
      obtain ⟨r, hr, hq⟩ := Option.bind_eq_some_iff.1 hq
      obtain ⟨ad, hx, hr'⟩ := shiftA_rep (V.ev hr) hq
      refine ⟨_, w, ?_, none_out hr'⟩
      unfold fieldT at hf
      split at hf
      · rename_i fs hu
        simp [execOp, Instr.fieldAt, run_underlying hu, hf, hx, Instr.sureAddr, fieldPlace, run_sizeOf' hs]
      · cases hf
    · cases hv
  · cases hv

theorem vAdd_field (h : RelX C φ F0 F1 σ a w) (V : View φ w (Fs F0 F1) a σ ρ H) {t : TypeId} {x : Operand} {f : Nat} (hv : vAdd C.P i ρ H (.field t x f) = some (p, ob)) :
    Runs C φ (Fs F0 F1) i a w ⟨d, .field t x f, ty, pos, af, gd⟩ p ob := by
  simp only [vAdd] at hv
  split at hv
  · rename_i fd ps hf hx
    obtain ⟨q, hq, he⟩ := Option.map_eq_some_iff.1 hv
    cases he
    have hx' := V.ev hx
    simp only [repV] at hx'
    obtain ⟨vs, hx', hrs⟩ := hx'
    unfold fieldT at hf
    split at hf
    · rename_i fs hu
      unfold takeT at hq
      split at hq
      · rename_i hagg
        split at hq
        · rename_i sz hs
          split at hq
          · cases hq
            rename_i hle
            refine ⟨.agg (vs.extract fd.offset (fd.offset + sz)), w, ?_, none_out ?_⟩
            · simp [execOp, Instr.field, run_underlying hu, hf, hx', asAgg, part, run_isAgg' hagg, run_sizeOf' hs]
            · simp only [repV]
              refine ⟨_, rfl, ?_⟩
              have := reps_take (reps_drop hrs fd.offset) sz
              simpa [Array.toList_extract, List.extract_eq_take_drop] using this
          · cases hq
        · cases hq
      · rename_i hagg
        split at hq
        · rename_i q qs hd
          cases hq
          have hq0 : ps[fd.offset]? = some q := by
            have : (ps.drop fd.offset)[0]? = some q := by rw [hd]; rfl
            simpa using this
          obtain ⟨v, hv, hr⟩ := reps_get _ _ hrs _ _ hq0
          refine ⟨v, w, ?_, none_out (by simpa [repV] using hr)⟩
          have hv' : vs[fd.offset]? = some v := by simpa using hv
          simp [execOp, Instr.field, run_underlying hu, hf, hx', asAgg, part, run_isAgg' hagg, hv']
        · cases hq
      · cases hq
    · cases hf
  · cases hv
end
end Go.Vm
end

section
namespace Go.Vm
open Go Go.RowKit
set_option linter.unusedVariables false
set_option linter.unusedSimpArgs false
section
variable {ρ : Operand → Option PV} {H : Id → Option Blk} {C : Ctx} {φ φ' : Id → Option Value} {F : Bool → Nat → Prop} {F0 F1 : Nat → Prop} {σ : St} {a : Act} {w w' : World} {P : Program} {i : Id} {p : PV} {ob : Option Blk}
variable {d : Option Tmp} {ty : TypeId} {pos : String} {af : Array Edge} {gd : Option (Nat × Bool)}

theorem run_indexAt' {t e : TypeId} {s : Nat} (hu : P.underlying t = some (.slice e)) (hs : szT P e = some s) (ad : Addr) (len cap : Nat) (k : IntKind) (j : Int) (h0 : 0 ≤ j) (h1 : j < len) (w : World) :
    (Instr.indexAt t (.slice (some ad) len cap) (.int k j)).run P w = .ok (.pointer (some (ad.add (j.toNat * s)))) w := by
  simp [Instr.indexAt, run_underlying hu, asIntOf, h0, h1, run_sizeOf' hs]

theorem elemT_spec {t e : TypeId} (h : elemT P t = some e) : P.underlying t = some (.slice e) := by
  unfold elemT at h
  split at h
  · cases h; assumption
  · cases h

theorem vAdd_indexAddr (h : RelX C φ F0 F1 σ a w) (V : View φ w (Fs F0 F1) a σ ρ H) {t : TypeId} {x j : Operand} (hv : vAdd C.P i ρ H (.indexAddr t x j) = some (p, ob)) :
    Runs C φ (Fs F0 F1) i a w ⟨d, .indexAddr t x j, ty, pos, af, gd⟩ p ob := by
  simp only [vAdd] at hv
  split at hv
  · rename_i q k n hx hj
    obtain ⟨r, hr, he⟩ := Option.map_eq_some_iff.1 hv
    cases he
    obtain ⟨qj, hqj, hj⟩ := Option.bind_eq_some_iff.1 hj
    have hxr := V.ev hx
    have hjr := asI_rep (V.ev hqj) hj
    unfold vidx at hr
    split at hr
    · split at hr
      · rename_i e he
        split at hr
        · rename_i s hs
          split at hr
          · cases hr
            rename_i hb
            simp only [repV, rep] at hxr
            obtain ⟨A, cap, hxe, hle, hd⟩ := hxr
            rcases hd with ⟨hz, _⟩ | ⟨ad, rfl, hF, hat⟩
            · omega
            · refine ⟨_, w, ?_, none_out (p := .one (.at _ _)) (x := .pointer (some (ad.add (n.toNat * s)))) ?_⟩
              · simp only [execOp, hxe, hjr, Sem.run_bind, run_indexAt' (elemT_spec he) hs _ _ _ _ _ hb.1 hb.2, Result.andThen_ok, Sem.run_pure]
              · simp only [repV, rep]
                exact ⟨_, rfl, by rw [add_block]; exact hF, repAt_drop hat _⟩
          · cases hr
        · cases hr
      · cases hr
    · split at hr
      · rename_i e he
        split at hr
        · rename_i s _ sz m _ hs hH
          split at hr
          · cases hr
            rename_i hb
            simp only [repV, rep] at hxr
            obtain ⟨hφ, _⟩ := hxr
            have hh := h.heap _ _ (V.heap hH)
            obtain ⟨v, vs, hv', ⟨hl, ho⟩, hrs⟩ := hh
            rw [hφ] at hv'
            cases hv'
            rcases ho with ⟨_, hz⟩ | ⟨g, cap, cur, hve, _, hc, hn, _, _, _⟩
            · omega
            · refine ⟨_, w, ?_, none_out (p := .one (.loc _ (n.toNat * s))) (x := .pointer (some ((⟨g, 0, none⟩ : Addr).add (n.toNat * s)))) ?_⟩
              · simp only [execOp, hve, hjr, Sem.run_bind, run_indexAt' (elemT_spec he) hs _ _ _ _ _ hb.1 hb.2, Result.andThen_ok, Sem.run_pure]
              · simp only [repV, rep]
                exact ⟨_, g, hφ, by rw [hve]; rfl, by rw [Addr.add_lit, Nat.zero_add]⟩
          · cases hr
        · cases hr
      · cases hr
    · cases hr
  · cases hv

theorem vAdd_index (h : RelX C φ F0 F1 σ a w) (V : View φ w (Fs F0 F1) a σ ρ H) {t : TypeId} {x j : Operand} (hv : vAdd C.P i ρ H (.index t x j) = some (p, ob)) :
    Runs C φ (Fs F0 F1) i a w ⟨d, .index t x j, ty, pos, af, gd⟩ p ob := by
  simp only [vAdd] at hv
  split at hv
  · rename_i s k n hx hj hu
    split at hv
    · cases hv
      rename_i hb
      obtain ⟨qx, hqx, hx⟩ := Option.bind_eq_some_iff.1 hx
      obtain ⟨qj, hqj, hj⟩ := Option.bind_eq_some_iff.1 hj
      refine ⟨_, w, ?_, none_out (p := .one (.c (.int .u8 (byteAt s n.toNat).toNat))) (x := .int .u8 (byteAt s n.toNat).toNat) (by simp only [repV, rep]; exact ⟨trivial, rfl⟩)⟩
      have hlt : n.toNat < s.size := by omega
      have hg : s[n.toNat]? = some (byteAt s n.toNat) := by
        have h1 : s[n.toNat]? = some (s[n.toNat]'hlt) := getElem?_pos s n.toNat hlt
        rw [h1]
        congr 1
        unfold byteAt
        have h2 : n.toNat < s.data.toList.length := by simpa using hlt
        rw [List.getD_eq_getElem?_getD, List.getElem?_eq_getElem h2]
        simp
        rfl
      simp [execOp, asS_rep (V.ev hqx) hx, asI_rep (V.ev hqj) hj, Instr.index, asIntOf, run_underlying hu, hb.1, hg]
    · cases hv
  · cases hv

theorem vAdd_slice (h : RelX C φ F0 F1 σ a w) (V : View φ w (Fs F0 F1) a σ ρ H) {t : TypeId} {x : Operand} {lo hi mx : Option Operand} (hv : vAdd C.P i ρ H (.slice t x lo hi mx) = some (p, ob)) :
    Runs C φ (Fs F0 F1) i a w ⟨d, .slice t x lo hi mx, ty, pos, af, gd⟩ p ob := by
  simp only [vAdd] at hv
  split at hv
  · rename_i s hx hu
    split at hv
    · rename_i k1 l k2 hh hl hh'
      split at hv
      · cases hv
        rename_i hb
        obtain ⟨qx, hqx, hx⟩ := Option.bind_eq_some_iff.1 hx
        refine ⟨_, w, ?_, none_out (p := .one (.c (.string (s.extract l.toNat hh.toNat)))) (x := .string (s.extract l.toNat hh.toNat)) (by simp only [repV, rep]; exact ⟨trivial, rfl⟩)⟩
        have e1 : ∀ y : Nat, hh ≤ y → ∀ v : Value, v = .int .i64 hh ∨ (∃ k, v = .int k hh) → True := fun _ _ _ _ => trivial
        cases lo with
        | none =>
          simp at hl
          obtain ⟨_, rfl⟩ := hl
          cases hi with
          | none =>
            simp at hh'
            obtain ⟨_, rfl⟩ := hh'
            simp [execOp, asS_rep (V.ev hqx) hx, Instr.sliceAt, Instr.slice, run_underlying hu, Instr.sliceBounds]
          | some hi =>
            simp only at hh'
            obtain ⟨qh, hqh, hh'⟩ := Option.bind_eq_some_iff.1 hh'
            simp [execOp, asS_rep (V.ev hqx) hx, Instr.sliceAt, Instr.slice, run_underlying hu, Instr.sliceBounds, Instr.sliceBound, asI_rep (V.ev hqh) hh', asIntOf, hb.2.1, hb.2.2]
        | some lo =>
          simp only at hl
          obtain ⟨ql, hql, hl⟩ := Option.bind_eq_some_iff.1 hl
          cases hi with
          | none =>
            simp at hh'
            obtain ⟨_, rfl⟩ := hh'
            have h2 : l ≤ (s.size : Int) := hb.2.1
            simp [execOp, asS_rep (V.ev hqx) hx, Instr.sliceAt, Instr.slice, run_underlying hu, Instr.sliceBounds, Instr.sliceBound, asI_rep (V.ev hql) hl, asIntOf, hb.1, h2]
          | some hi =>
            simp only at hh'
            obtain ⟨qh, hqh, hh'⟩ := Option.bind_eq_some_iff.1 hh'
            have h3 : 0 ≤ hh := by omega
            have h4 : l ≤ max hh 0 := by omega
            simp [execOp, asS_rep (V.ev hqx) hx, Instr.sliceAt, Instr.slice, run_underlying hu, Instr.sliceBounds, Instr.sliceBound, asI_rep (V.ev hql) hl, asI_rep (V.ev hqh) hh', asIntOf, hb.1, hb.2.2, h3, h4]
      · cases hv
    · cases hv
  · cases hv
end
end Go.Vm
end

section
namespace Go.Vm
open Go Go.RowKit
set_option linter.unusedVariables false
set_option linter.unusedSimpArgs false
section
variable {ρ : Operand → Option PV} {H : Id → Option Blk} {C : Ctx} {φ φ' : Id → Option Value} {F : Bool → Nat → Prop} {F0 F1 : Nat → Prop} {σ : St} {a : Act} {w w' : World} {P : Program} {i : Id} {p : PV} {ob : Option Blk}
variable {d : Option Tmp} {ty : TypeId} {pos : String} {af : Array Edge} {gd : Option (Nat × Bool)}

theorem fill_congr (pl pl' : Nat → Option (Nat × Nat)) : ∀ (vals : List (Nat × Value)) (cells : Array Value), (∀ k, pl k = pl' k) → Instr.fill pl cells vals = Instr.fill pl' cells vals
  | [], _, _ => rfl
  | (k, v) :: rest, cells, h => by
    simp only [Instr.fill]
    rw [h k]
    split
    · rfl
    · split
      · rfl
      · exact fill_congr pl pl' rest _ h

theorem run_mapM_places {fs : Array Field} (w : World) (h : ∀ f ∈ fs, (szT P f.type).isSome = true) :
    (fs.mapM (m := Sem) fun f => do pure (f.offset, ← sizeOf f.type)).run P w = .ok (fs.map fun f => (f.offset, (szT P f.type).getD 0)) w := by
  have key : ∀ l : List Field, (∀ f ∈ l, (szT P f.type).isSome = true) → (l.mapM (m := Sem) fun f => do pure (f.offset, ← sizeOf f.type)).run P w = .ok (l.map fun f => (f.offset, (szT P f.type).getD 0)) w := by
    intro l
    induction l with
    | nil => intro _; simp
    | cons f l ih =>
      intro hl
      obtain ⟨s, hs⟩ := Option.isSome_iff_exists.1 (hl f (by simp))
      have := ih fun g hg => hl g (by simp [hg])
      simp only [List.mapM_cons, Sem.run_bind, run_sizeOf' hs, Result.andThen_ok, Sem.run_pure, this, List.map_cons, hs, Option.getD_some]
  have h1 := key fs.toList (fun f hf => h f (by simpa using hf))
  rw [Array.mapM_eq_mapM_toList, Sem.run_map, h1, Result.andThen_ok, ← Array.toList_map]

theorem vAdd_build (h : RelX C φ F0 F1 σ a w) (V : View φ w (Fs F0 F1) a σ ρ H) {t : TypeId} {parts : Array (Nat × Operand)} (hv : vAdd C.P i ρ H (.build t parts) = some (p, ob)) :
    Runs C φ (Fs F0 F1) i a w ⟨d, .build t parts, ty, pos, af, gd⟩ p ob := by
  simp only [vAdd] at hv
  split at hv
  · rename_i cs pl ps hzc hpl hps
    obtain ⟨cs', hf, he⟩ := Option.map_eq_some_iff.1 hv
    cases he
    obtain ⟨z, hz, hcs, hr⟩ := zero_rep (φ := φ) (w := w) (F := Fs F0 F1) hzc
    obtain ⟨h1, h2⟩ := partsOf_rep h V _ _ hps
    obtain ⟨us, hu, hr'⟩ := vfill_rep pl _ _ _ _ _ h1 h2 hr hf
    unfold placesT at hpl
    split at hpl
    · rename_i fs hund
      split at hpl
      case isFalse => cases hpl
      rename_i hall0
      have hall : ∀ f ∈ fs, (szT C.P f.type).isSome = true := fun f hf => List.all_eq_true.1 hall0 f (by simpa using hf)
      cases hpl
      refine ⟨.agg us, w, ?_, none_out (by simp only [repV]; exact ⟨us, rfl, hr'⟩)⟩
      have hpl2 : ∀ k : Nat, ((fs.map fun (f : Field) => (f.offset, (szT C.P f.type).getD 0))[k]? : Option (Nat × Nat)) = placeOf C.P fs k := by
        intro k
        unfold placeOf
        rw [Array.getElem?_map]
        cases hk : fs[k]? with
        | none => rfl
        | some f =>
          obtain ⟨s, hs⟩ := Option.isSome_iff_exists.1 (hall f (Array.mem_of_getElem? hk))
          simp [hs]
      rw [← fill_congr _ _ _ _ hpl2] at hu
      have hm : (parts.map fun x => (x.1, a.eval x.2)).toList = parts.toList.map fun x => (x.1, a.eval x.2) := by simp
      simp only [execOp, Instr.build, Sem.run_bind, run_zeroValue' hz, Result.andThen_ok, run_underlying hund, run_mapM_places w hall]
      rw [hm, hu]
      rfl
    · rename_i k e hund
      split at hpl
      · rename_i s hs
        cases hpl
        refine ⟨.agg us, w, ?_, none_out (by simp only [repV]; exact ⟨us, rfl, hr'⟩)⟩
        have hm : (parts.map fun x => (x.1, a.eval x.2)).toList = parts.toList.map fun x => (x.1, a.eval x.2) := by simp
        simp only [execOp, Instr.build, Sem.run_bind, run_zeroValue' hz, Result.andThen_ok, run_underlying hund, run_sizeOf' hs]
        rw [hm, hu]
        rfl
      · cases hpl
    · cases hpl
  · cases hv

theorem zeros_rep {cs : List PC} {z : Array Value} {s m : Nat} (hr : reps φ w F cs z.toList) (hs : cs.length = s) (hs0 : 0 < s) :
    reps φ w F ((List.range m).map fun q => cs.getD (q % s) (.c undef)) ((Array.range m).map (z[· % z.size]!)).toList := by
  have hl := reps_length _ _ hr
  have hz : z.size = s := by rw [← hs, ← hl, Array.length_toList]
  refine reps_of_get _ _ (by simp) fun j q v hq hv => ?_
  simp only [Array.toList_map, Array.toList_range, List.getElem?_map] at hq hv
  cases hj : (List.range m)[j]? with
  | none => rw [hj] at hq; simp at hq
  | some k =>
    rw [hj] at hq hv
    simp only [Option.map_some, Option.some.injEq] at hq hv
    subst hq hv
    have hk : k % s < s := Nat.mod_lt _ hs0
    have h1 : cs[k % s]? = some (cs[k % s]'(by omega)) := List.getElem?_eq_getElem (by omega)
    obtain ⟨u, hu, hr'⟩ := reps_get _ _ hr _ _ h1
    rw [List.getD_eq_getElem?_getD, h1]
    simp only [Option.getD_some]
    rw [hz]
    have h2 : z[k % s]? = some u := by simpa using hu
    have h3 : z[k % s]! = u := by
      rw [getElem!_def, h2]
    rw [h3]
    exact hr'

theorem vAdd_buildSlice (h : RelX C φ F0 F1 σ a w) (V : View φ w (Fs F0 F1) a σ ρ H) (hn : φ i = none) {t : TypeId} {len : Nat} {parts : Array (Nat × Operand)} (hv : vAdd C.P i ρ H (.buildSlice t len parts) = some (p, ob)) :
    Runs C φ (Fs F0 F1) i a w ⟨d, .buildSlice t len parts, ty, pos, af, gd⟩ p ob := by
  simp only [vAdd] at hv
  split at hv
  · rename_i e he
    split at hv
    · rename_i s cs ps hs hz hps
      split at hv
      · rename_i hb
        rw [rowZ_eq _ _ (by omega), hb.2.2.2] at hv
        obtain ⟨cs', hf, he'⟩ := Option.map_eq_some_iff.1 hv
        cases he'
        obtain ⟨z, hz, hce, hr⟩ := zero_rep (φ := φ) (w := w) (F := Fs F0 F1) hz
        obtain ⟨h1, h2⟩ := partsOf_rep h V _ _ hps
        have hzr := zeros_rep (m := len * s) hr hb.2.2.2 hb.2.2.1
        obtain ⟨us, hu, hr'⟩ := vfill_rep _ _ _ _ _ _ h1 h2 hzr hf
        have hlen : us.size = len * s := by
          have hl := reps_length _ _ hr'
          rw [Array.length_toList] at hl
          rw [hl]
          have : ∀ (ps : List (Nat × PV)) (cells cells' : List PC) (pl : Nat → Option (Nat × Nat)), vfill pl cells ps = some cells' → cells'.length = cells.length := by
            intro ps
            induction ps with
            | nil => intro cells cells' pl hf; simp only [vfill] at hf; cases hf; rfl
            | cons q ps ih =>
              intro cells cells' pl hf
              obtain ⟨k, q⟩ := q
              simp only [vfill] at hf
              split at hf
              · split at hf
                · rename_i hc
                  rw [ih _ _ _ hf, splice_length _ _ _ hc.2]
                · cases hf
              · cases hf
          rw [this _ _ _ _ hf]
          simp
        refine ⟨_, _, ?_, row_out h hn hr' hlen (by unfold maxLen; have := Nat.le_mul_of_pos_right len hb.2.2.1; omega)⟩
        have hm : (parts.map fun x => (x.1, a.eval x.2)).toList = parts.toList.map fun x => (x.1, a.eval x.2) := by simp
        have hne : ¬ len * s = 0 := by
          have := Nat.mul_pos hb.2.1 hb.2.2.1
          omega
        simp only [execOp, Instr.buildSlice, Sem.run_bind, run_underlying (elemT_spec he), Result.andThen_ok, run_sizeOf' hs]
        rw [if_neg (by omega)]
        simp only [if_neg hne, Sem.run_bind, run_zeroValue' hz, Result.andThen_ok, Sem.run_pure]
        rw [hm, hu]
        simp [newRow]
      · split at hv
        · rename_i hz0
          obtain ⟨rfl, hpe⟩ := hz0
          cases hv
          obtain ⟨h1, h2⟩ := partsOf_rep h V _ _ hps
          have hpa : parts = #[] := by
            rw [List.isEmpty_iff] at hpe
            subst hpe
            have := congrArg List.length h1
            apply Array.eq_empty_of_size_eq_zero
            simp at this
            omega
          subst hpa
          refine ⟨_, _, ?_, row_out (vs := #[]) h hn (by simp only [reps]) (by simp) (by unfold maxLen; omega)⟩
          simp only [execOp, Instr.buildSlice, Sem.run_bind, run_underlying (elemT_spec he), Result.andThen_ok, run_sizeOf' hs]
          rw [if_neg (by omega)]
          have e0 : ∀ f : Nat → Value, Array.map f (Array.range 0) = #[] := fun f => Array.eq_empty_of_size_eq_zero (by simp)
          simp [Instr.fill, newRow, e0]
        · cases hv
    · cases hv
  · cases hv

theorem vAdd_makeSlice (h : RelX C φ F0 F1 σ a w) (V : View φ w (Fs F0 F1) a σ ρ H) (hn : φ i = none) {t : TypeId} {n m : Operand} (hv : vAdd C.P i ρ H (.makeSlice t n m) = some (p, ob)) :
    Runs C φ (Fs F0 F1) i a w ⟨d, .makeSlice t n m, ty, pos, af, gd⟩ p ob := by
  simp only [vAdd] at hv
  split at hv
  · rename_i e k1 n' k2 m' he hnn hmm
    split at hv
    · rename_i s b cs hs hby hz
      split at hv
      · rename_i hb
        obtain ⟨h0, hnm, hby1, hn1, hs0, hcl⟩ := hb
        rw [rowZ_eq _ _ (by omega), hcl] at hv
        cases hv
        obtain ⟨z, hz, hce, hr⟩ := zero_rep (φ := φ) (w := w) (F := Fs F0 F1) hz
        obtain ⟨qn, hqn, hnn⟩ := Option.bind_eq_some_iff.1 hnn
        obtain ⟨qm, hqm, hmm⟩ := Option.bind_eq_some_iff.1 hmm
        have hzr := zeros_rep (m := n'.toNat * s) hr hcl hs0
        have hnmN : n'.toNat ≤ m'.toNat := by omega
        have hzt : ((Array.range (n'.toNat * s)).map (z.cells[· % z.cells.size]!)).toList = (((Array.range (m'.toNat * s)).map (z.cells[· % z.cells.size]!)).toList).take (n'.toNat * s) := by
          simp only [Array.toList_map, Array.toList_range, ← List.map_take, List.take_range]
          rw [Nat.min_eq_left (Nat.mul_le_mul_right _ hnmN)]
        rw [hzt] at hzr
        refine ⟨_, _, ?_, row_outC h hn hzr (by simp) hnmN (by unfold maxLen; omega)⟩
        obtain ⟨inf, hi, rfl⟩ := Option.map_eq_some_iff.1 (show (C.P.info? e).map (·.bytes) = some b from hby)
        have hwm : IntKind.i64.wrap m' = m' := by rw [IntKind.wrap_i64]; omega
        have hwn : IntKind.i64.wrap n' = n' := by rw [IntKind.wrap_i64]; omega
        have hc1 : ¬ (m' < 0) := by omega
        have hc1' : ¬ (n' < 0) := by omega
        have hc3 : ¬ (n' > m') := by omega
        have hc2 : ¬ ((inf.bytes : Int) * m' > 2 ^ 48) := by omega
        simp only [execOp, asI_rep (V.ev hqn) hnn, asI_rep (V.ev hqm) hmm, Instr.makeSlice, Sem.run_bind, run_underlying (elemT_spec he), Result.andThen_ok, asInt, asIntOf, Sem.run_pure, run_typeInfo' hi, hwn, hwm]
        simp only [hc1, hc1', hc2, hc3, decide_false, Bool.or_self, Bool.false_eq_true, if_false, Int.lt_irrefl, run_askRoom, Sem.run_bind, Result.andThen_ok, run_sizeOf' hs]
        by_cases hz0 : m'.toNat * s = 0
        · simp [hz0, newRow, Array.range_zero']
        · simp [hz0, run_zeroValue' hz, newRow]
      · cases hv
    · cases hv
  · cases hv
end
end Go.Vm
end

section
namespace Go.Vm
open Go Go.RowKit Go.MapKept
set_option linter.unusedVariables false
set_option linter.unusedSimpArgs false
section
variable {ρ : Operand → Option PV} {H : Id → Option Blk} {C : Ctx} {φ φ' : Id → Option Value} {F : Bool → Nat → Prop} {F0 F1 : Nat → Prop} {σ : St} {a : Act} {w w' : World} {P : Program} {i : Id} {p : PV} {ob : Option Blk}
variable {d : Option Tmp} {ty : TypeId} {pos : String} {af : Array Edge} {gd : Option (Nat × Bool)}

theorem isKeyB_ok {d : TypeDesc} {v : Value} (h : isKeyB d v = true) : IsKey d v := by
  unfold isKeyB at h
  split at h
  · trivial
  · exact by simpa [IsKey] using h
  · trivial
  · cases h
theorem keyOf_rep {q : PV} {k x : Value} (h : keyOf q = some k) (hr : repV φ w F q x) : x = k := by
  unfold keyOf at h
  split at h
  · cases h
    simp only [repV, rep] at hr
    exact hr.1
  · cases h
theorem findE_rep {d : TypeDesc} {k : Value} : ∀ {es : List (Value × PC)} {ents : List MapEntry} (n : Nat), ents.map (·.key) = es.map (·.1) → reps φ w F (es.map (·.2)) (ents.map (·.val)) → ∀ r, findE d k es = some r →
    match r with
    | some p => ∃ j v, Instr.findNow d k ents n = some (some (j, v)) ∧ rep φ w F p v
    | none => Instr.findNow d k ents n = some none
  | [], ents, n, hk, hr, r, h => by
    cases ents with
    | nil => unfold findE at h; cases h; rfl
    | cons e ents => simp at hk
  | e :: es, ents, n, hk, hr, r, h => by
    cases ents with
    | nil => simp at hk
    | cons m ents =>
      simp only [List.map_cons, List.cons.injEq] at hk
      simp only [List.map_cons, reps] at hr
      obtain ⟨v, vs', hv, hr1, hr2⟩ := hr
      simp only [List.cons.injEq] at hv
      obtain ⟨rfl, rfl⟩ := hv
      unfold findE at h
      unfold Instr.findNow
      rw [hk.1]
      split at h
      · rename_i hs
        cases h
        rw [hs]
        exact ⟨n, _, rfl, hr1⟩
      · rename_i hs
        rw [hs]
        exact findE_rep (n + 1) hk.2 hr2 r h
      · cases h

theorem vAdd_makeMap (h : RelX C φ F0 F1 σ a w) (hn : φ i = none) {t : TypeId} {r : Option Operand} (hv : vAdd C.P i ρ H (.makeMap t r) = some (p, ob)) :
    Runs C φ (Fs F0 F1) i a w ⟨d, .makeMap t r, ty, pos, af, gd⟩ p ob := by
  cases r with
  | some _ => simp [vAdd] at hv
  | none =>
    simp only [vAdd] at hv
    cases hv
    refine ⟨.map (some w.heap.size), w.alloc (.map #[] 0), by first | rfl | (simp only [execOp, Instr.makeMap, newObj]; rfl), .map (some w.heap.size), below_alloc1 _ _, ⟨w.heap.size, #[], 0, upd_self _ _ _, by simpa using heap_alloc_new w (.map #[] 0), rfl, by simp [reps]⟩, fun g hg => ?_, ?_⟩
    · simp [blkOf] at hg; omega
    · simp only [repV, rep]
      exact ⟨upd_self _ _ _, rfl⟩
theorem vAdd_lookup (h : RelX C φ F0 F1 σ a w) (V : View φ w (Fs F0 F1) a σ ρ H) {t : TypeId} {m k : Operand} {ok : Bool} (hv : vAdd C.P i ρ H (.lookup t m k ok) = some (p, ob)) :
    Runs C φ (Fs F0 F1) i a w ⟨d, .lookup t m k ok, ty, pos, af, gd⟩ p ob := by
  simp only [vAdd] at hv
  obtain ⟨⟨q, b⟩, hl, he⟩ := Option.map_eq_some_iff.1 hv
  cases he
  unfold vlook at hl
  split at hl
  · rename_i j kv kt vt hm hk hu
    obtain ⟨pk, hpk, hkv⟩ := Option.bind_eq_some_iff.1 hk
    have hmr := V.ev hm
    have hkr := keyOf_rep hkv (V.ev hpk)
    simp only [repV, rep] at hmr
    split at hl
    · rename_i mt es dk hH hd
      obtain ⟨g, ents, clock, hp, hheap, hkeys, hvals⟩ := h.heap _ _ (V.heap hH)
      have hme : a.eval m = .map (some g) := Option.some.inj (hmr.1.symm.trans hp)
      split at hl
      · rename_i hkb
        have hkey := isKeyB_ok hkb
        have hx := V.ev hm
        split at hl
        · rename_i p0 hf
          cases hl
          obtain ⟨jj, v, h1, h2⟩ := findE_rep 0 hkeys hvals _ hf
          have hrun : (Instr.lookup t (a.eval m) (a.eval k) ok).run C.P w = .ok (if ok = true then .tuple #[v, .bool true] else v) w := by
            rw [hme, hkr]
            simp [Instr.lookup, run_underlying hu, Go.MapKept.run_getObj_map hheap, run_checkKey hd hkey, run_findKey hd h1, Result.andThen]
          refine ⟨if ok = true then .tuple #[v, .bool true] else v, w, by simp [execOp, hrun, Result.andThen], none_out ?_⟩
          cases ok
          · simp only [Bool.false_eq_true, if_false, repV]; exact h2
          · simp only [if_true, repV, repVs]
            exact ⟨_, rfl, _, _, rfl, h2, _, _, rfl, by simp only [rep]; exact ⟨trivial, rfl⟩, rfl⟩
        · rename_i hf
          split at hl
          · rename_i z hz
            split at hl
            · rename_i hone
              cases hl
              have h1 := findE_rep 0 hkeys hvals _ hf
              have hrun : (Instr.lookup t (a.eval m) (a.eval k) ok).run C.P w = .ok (if ok = true then .tuple #[z, .bool false] else z) w := by
                rw [hme, hkr]
                simp [Instr.lookup, run_underlying hu, Go.MapKept.run_getObj_map hheap, run_checkKey hd hkey, run_findKey hd h1, run_zeroValue' hz, Result.andThen]
              refine ⟨if ok = true then .tuple #[z, .bool false] else z, w, by simp [execOp, hrun, Result.andThen], none_out ?_⟩
              cases ok
              · simp only [Bool.false_eq_true, if_false, repV, rep]; exact ⟨trivial, hone⟩
              · simp only [if_true, repV, repVs]
                exact ⟨_, rfl, _, _, rfl, by simp only [rep]; exact ⟨trivial, hone⟩, _, _, rfl, by simp only [rep]; exact ⟨trivial, rfl⟩, rfl⟩
            · cases hl
          · cases hl
        · cases hl
      · cases hl
    · cases hl
  · cases hl
end
end Go.Vm
end

section
namespace Go.Vm
open Go Go.RowKit
set_option linter.unusedVariables false
set_option linter.unusedSimpArgs false
section
variable {ρ : Operand → Option PV} {H : Id → Option Blk} {C : Ctx} {φ φ' : Id → Option Value} {F : Bool → Nat → Prop} {F0 F1 : Nat → Prop} {σ : St} {a : Act} {w w' : World} {P : Program} {i : Id} {p : PV} {ob : Option Blk}
variable {d : Option Tmp} {ty : TypeId} {pos : String} {af : Array Edge} {gd : Option (Nat × Bool)}

theorem vlen_run (h : RelX C φ F0 F1 σ a w) (V : View φ w (Fs F0 F1) a σ ρ H) {t ty' : TypeId} {q : PV} {x : Value} {n : Nat} (hr : repV φ w (Fs F0 F1) q x) (ho : lenOk C.P t q = true) (hl : vlen H q = some n) :
    (Builtin.len_ #[t] ty' #[x]).run C.P w = .ok (.int .i64 n) w := by
  unfold vlen at hl
  split at hl
  · cases hl
    simp only [lenOk] at ho
    split at ho
    · rename_i e hu
      simp only [repV, rep] at hr
      obtain ⟨A, cap, rfl, _⟩ := hr
      simp [Builtin.len_, run_underlying hu, goInt]
    · cases ho
  · split at hl
    · cases hl
      rename_i e s cs hH
      simp only [lenOk] at ho
      split at ho
      · rename_i e' hu
        simp only [repV, rep] at hr
        obtain ⟨hφ, _⟩ := hr
        obtain ⟨v, vs, hv, ⟨_, ho⟩, _⟩ := h.heap _ _ (V.heap hH)
        rw [hφ] at hv
        cases hv
        rcases ho with ⟨rfl, rfl⟩ | ⟨g, cap, cur, rfl, _⟩
        · simp [Builtin.len_, run_underlying hu, goInt]
        · simp [Builtin.len_, run_underlying hu, goInt]
      · cases ho
    · cases hl
  · cases hl
    simp only [lenOk] at ho
    split at ho
    · rename_i e hu
      simp only [repV, rep] at hr
      obtain ⟨rfl, _⟩ := hr
      simp [Builtin.len_, run_underlying hu, goInt]
    · cases ho
  · cases hl
    simp only [lenOk] at ho
    split at ho
    · rename_i hu
      simp only [repV, rep] at hr
      obtain ⟨rfl, _⟩ := hr
      simp [Builtin.len_, run_underlying hu, goInt]
    · cases ho
  · cases hl

theorem list1 {α : Type} {x : Array α} {y : α} (h : x.toList = [y]) : x = #[y] := by cases x; simp_all
theorem list2 {α : Type} {x : Array α} {y z : α} (h : x.toList = [y, z]) : x = #[y, z] := by cases x; simp_all

theorem vAdd_call (h : RelX C φ F0 F1 σ a w) (V : View φ w (Fs F0 F1) a σ ρ H) {c : Call} (hv : vAdd C.P i ρ H (.call c) = some (p, ob)) :
    Runs C φ (Fs F0 F1) i a w ⟨d, .call c, ty, pos, af, gd⟩ p ob := by
  obtain ⟨cal, ar, at_⟩ := c
  simp only [vAdd] at hv
  split at hv
  · split at hv
    · rename_i x t hx ht
      split at hv
      · rename_i q hq
        split at hv
        · rename_i ho
          obtain ⟨n, hn, he⟩ := Option.map_eq_some_iff.1 hv
          cases he
          obtain rfl := list1 hx
          obtain rfl := list1 ht
          refine ⟨.int .i64 n, w, ?_, none_out (by simp only [repV, rep]; exact ⟨trivial, rfl⟩)⟩
          have := vlen_run (ty' := ty) h V (V.ev hq) ho hn
          simp [execOp, resolve, invoke, builtin, this]
        · cases hv
      · cases hv
    · cases hv
  · split at hv
    · rename_i x y hx
      split at hv
      · rename_i k p1 k2 q hp hq
        cases hv
        obtain rfl := list2 hx
        obtain ⟨r1, hr1, hp⟩ := Option.bind_eq_some_iff.1 hp
        obtain ⟨r2, hr2, hq⟩ := Option.bind_eq_some_iff.1 hq
        refine ⟨.int k (if q < p1 then q else p1), w, ?_, none_out (by simp only [repV, rep]; exact ⟨trivial, rfl⟩)⟩
        simp [execOp, resolve, invoke, builtin, Builtin.min_, asI_rep (V.ev hr1) hp, asI_rep (V.ev hr2) hq, Builtin.min2]
      · cases hv
    · cases hv
  · split at hv
    · rename_i x y hx
      split at hv
      · rename_i k p1 k2 q hp hq
        cases hv
        obtain rfl := list2 hx
        obtain ⟨r1, hr1, hp⟩ := Option.bind_eq_some_iff.1 hp
        obtain ⟨r2, hr2, hq⟩ := Option.bind_eq_some_iff.1 hq
        refine ⟨.int k (if q > p1 then q else p1), w, ?_, none_out (by simp only [repV, rep]; exact ⟨trivial, rfl⟩)⟩
        simp [execOp, resolve, invoke, builtin, Builtin.max_, asI_rep (V.ev hr1) hp, asI_rep (V.ev hr2) hq, Builtin.max2]
      · cases hv
    · cases hv
  · cases hv

theorem onesOf_rep : ∀ (ps : List (Nat × PV)) (cs : List PC) (vals : List Value), onesOf ps = some cs → ps.length = vals.length →
    (∀ (j : Nat) (p : Nat × PV) (v : Value), ps[j]? = some p → vals[j]? = some v → repV φ w F p.2 v) → reps φ w F cs vals
  | [], cs, vals, h, hl, _ => by
    simp only [onesOf] at h
    cases h
    simp only [reps]
    exact List.length_eq_zero_iff.1 hl.symm
  | (k, .one q) :: ps, cs, vals, h, hl, hr => by
    simp only [onesOf] at h
    cases vals with
    | nil => simp at hl
    | cons v vals =>
      split at h
      · rename_i cs' hcs
        cases h
        simp only [reps]
        have h0 := hr 0 (k, .one q) v rfl rfl
        exact ⟨v, vals, rfl, by simpa only [repV] using h0, onesOf_rep ps _ vals hcs (by simpa using hl) fun j p v hp hv => hr (j + 1) p v (by simpa using hp) (by simpa using hv)⟩
      · cases h
  | (k, .agg _) :: ps, cs, vals, h, hl, hr => by simp [onesOf] at h
  | (k, .tup _) :: ps, cs, vals, h, hl, hr => by simp [onesOf] at h
  | (k, .may _ _) :: ps, cs, vals, h, hl, hr => by simp [onesOf] at h

theorem vAdd_makeFunc (h : RelX C φ F0 F1 σ a w) (V : View φ w (Fs F0 F1) a σ ρ H) {fn : Fn} {first caps : Array Operand} (hv : vAdd C.P i ρ H (.makeFunc fn first caps) = some (p, ob)) :
    Runs C φ (Fs F0 F1) i a w ⟨d, .makeFunc fn first caps, ty, pos, af, gd⟩ p ob := by
  cases fn with
  | func f =>
    simp only [vAdd] at hv
    split at hv
    · rename_i hf
      split at hv
      · rename_i ps hps
        split at hv
        · rename_i cs hcs
          cases hv
          obtain ⟨h1, h2⟩ := partsOf_rep h V _ _ hps
          have hl : ps.length = (caps.toList.map a.eval).length := by
            have := congrArg List.length h1
            simpa using this
          have hr := onesOf_rep (φ := φ) (w := w) (F := Fs F0 F1) ps cs (caps.toList.map a.eval) hcs hl fun j p v hp hv => h2 j p (0, v) hp (by
            simp only [List.map_map, List.getElem?_map] at hv ⊢
            cases hc : caps.toList[j]? with
            | none => rw [hc] at hv; simp at hv
            | some u => rw [hc] at hv; simp at hv ⊢; exact hv)
          have hfe : first = #[] := Array.eq_empty_of_size_eq_zero hf
          refine ⟨.func (.func f) #[] (caps.map a.eval), w, ?_, none_out (by simp only [repV, rep]; exact ⟨_, rfl, by simpa using hr⟩)⟩
          simp [execOp, Instr.makeFunc, hfe]
        · cases hv
      · cases hv
    · cases hv
  | _ => simp [vAdd] at hv

/-- WHAT vAdd SAYS IS WHAT THE OPERATION DOES. -/
theorem vAdd_sound (h : RelX C φ F0 F1 σ a w) (V : View φ w (Fs F0 F1) a σ ρ H) (hn : ob ≠ none → φ i = none) (o : Oper) (hv : vAdd C.P i ρ H o.op = some (p, ob)) : Runs C φ (Fs F0 F1) i a w o p ob := by
  obtain ⟨d, op, ty, pos, af, gd⟩ := o
  cases op
  case move x =>
    simp only [vAdd] at hv
    obtain ⟨q, hq, he⟩ := Option.map_eq_some_iff.1 hv
    cases he
    exact ⟨_, w, by simp [execOp], none_out (V.ev hq)⟩
  case assign x =>
    simp only [vAdd] at hv
    obtain ⟨q, hq, he⟩ := Option.map_eq_some_iff.1 hv
    cases he
    exact ⟨_, w, by simp [execOp], none_out (V.ev hq)⟩
  case pick => exact vAdd_pick h V hv
  case alloc => exact vAdd_alloc h V (hn (by rintro rfl; simp [vAdd] at hv)) hv
  case box => exact vAdd_box h V (hn (by rintro rfl; simp only [vAdd] at hv; obtain ⟨cs, hc, he⟩ := Option.map_eq_some_iff.1 hv; cases he)) hv
  case load => exact vAdd_load h V hv
  case nilCheck => exact vAdd_nilCheck h V hv
  case binOp => exact vAdd_binOp h V hv
  case unOp => exact vAdd_unOp h V hv
  case convert => exact vAdd_convert h V hv
  case extract => exact vAdd_extract h V hv
  case fieldAddr => exact vAdd_fieldAddr h V hv
  case field => exact vAdd_field h V hv
  case indexAddr => exact vAdd_indexAddr h V hv
  case index => exact vAdd_index h V hv
  case slice => exact vAdd_slice h V hv
  case build => exact vAdd_build h V hv
  case buildSlice => exact vAdd_buildSlice h V (hn (by rintro rfl; simp only [vAdd] at hv; (repeat' split at hv) <;> simp at hv)) hv
  case makeSlice => exact vAdd_makeSlice h V (hn (by rintro rfl; simp only [vAdd] at hv; (repeat' split at hv) <;> simp at hv)) hv
  case call => exact vAdd_call h V hv
  case makeFunc => exact vAdd_makeFunc h V hv
  case makeMap t r => exact vAdd_makeMap h (hn (by rintro rfl; cases r <;> simp [vAdd] at hv)) hv
  case lookup => exact vAdd_lookup h V hv
  all_goals simp [vAdd] at hv
end
end Go.Vm
end

section
namespace Go.Vm
open Go Go.RowKit
set_option linter.unusedSimpArgs false

/-! ### Names changed, tags taken off, what is borrowed -/
mutual
def PC.ren (s : Nat) : PC → PC
  | .c v => .c v
  | .ifc => .ifc
  | .any => .any
  | .emp => .emp
  | .sl t n xs => .sl t n (PC.rens s xs)
  | .at t ys => .at t (PC.rens s ys)
  | .loc i off => .loc (s, i.2) off
  | .vw i off n => .vw (s, i.2) off n
  | .cut i n => .cut (s, i.2) n
  | .rmp t ks ps => .rmp t ks (PC.rens s ps)
  | .own i => .own (s, i.2)
  | .fn f caps => .fn f (PC.rens s caps)
  | .mth f caps => .mth f (PC.rens s caps)
def PC.rens (s : Nat) : List PC → List PC
  | [] => []
  | p :: ps => p.ren s :: PC.rens s ps
end
mutual
def PV.ren (s : Nat) : PV → PV
  | .one p => .one (p.ren s)
  | .agg ps => .agg (PC.rens s ps)
  | .tup vs => .tup (PV.rens s vs)
  | .may b p => .may b (p.ren s)
  | .full p => .full (p.ren s)
def PV.rens (s : Nat) : List PV → List PV
  | [] => []
  | p :: ps => p.ren s :: PV.rens s ps
end
def Blk.ren (s : Nat) : Blk → Blk
  | .box t cs => .box t (PC.rens s cs)
  | .arr t z n cs => .arr t z n (PC.rens s cs)
  | .mp t es => .mp t (es.map fun e => (e.1, e.2.ren s))
theorem rens_mapG (s : Nat) : ∀ l : List PC, PC.rens s l = l.map (PC.ren s)
  | [] => rfl
  | p :: l => by rw [PC.rens, rens_mapG s l]; rfl

mutual
def PC.weak : PC → PC
  | .sl _ n xs => .sl false n (PC.weaks xs)
  | .at _ ys => .at false (PC.weaks ys)
  | .rmp _ ks ps => .rmp false ks (PC.weaks ps)
  | .fn f caps => .fn f (PC.weaks caps)
  | .mth f caps => .mth f (PC.weaks caps)
  | p => p
def PC.weaks : List PC → List PC
  | [] => []
  | p :: ps => p.weak :: PC.weaks ps
end
mutual
/-- No name of a block of the call's own stands in it. -/
def PC.free : PC → Bool
  | .c _ => true
  | .ifc => true
  | .any => true
  | .emp => true
  | .sl _ _ xs => PC.frees xs
  | .at _ ys => PC.frees ys
  | .loc _ _ => false
  | .vw _ _ _ => false
  | .cut _ _ => false
  | .rmp _ _ ps => PC.frees ps
  | .own _ => false
  | .fn _ caps => PC.frees caps
  | .mth _ caps => PC.frees caps
def PC.frees : List PC → Bool
  | [] => true
  | p :: ps => p.free && PC.frees ps
end
mutual
def PV.free : PV → Bool
  | .one p => p.free
  | .agg ps => PC.frees ps
  | .tup _ => false
  | .may _ _ => false
  | .full _ => false
def PV.frees : List PV → Bool
  | [] => true
  | p :: ps => p.free && PV.frees ps
end
mutual
/-- All that it only reads is new. -/
def PC.strict : PC → Bool
  | .c _ => true
  | .ifc => true
  | .any => true
  | .emp => true
  | .sl t _ xs => t && PC.stricts xs
  | .at t ys => t && PC.stricts ys
  | .loc _ _ => true
  | .vw _ _ _ => true
  | .cut _ _ => true
  | .rmp t _ ps => t && PC.stricts ps
  | .own _ => true
  | .fn _ caps => PC.stricts caps
  | .mth _ caps => PC.stricts caps
def PC.stricts : List PC → Bool
  | [] => true
  | p :: ps => p.strict && PC.stricts ps
end
mutual
def PV.strict : PV → Bool
  | .one p => p.strict
  | .agg ps => PC.stricts ps
  | .tup vs => PV.stricts vs
  | .may _ _ => false
  | .full _ => false
def PV.stricts : List PV → Bool
  | [] => true
  | p :: ps => p.strict && PV.stricts ps
end

/-- As a callee may see it: rows of the call's own as rows that are read. -/
def clo (H : Id → Option Blk) : Nat → PC → PC
  | _ + 1, .c (.slice none 0 0) => .sl false 0 []
  | _ + 1, .emp => .sl false 0 []
  | k + 1, .own i =>
    match H i with
    | some (.arr _ _ n cs) => .sl false n (cs.map (clo H k))
    | _ => .own i
  | k + 1, .vw i off n =>
    match H i with
    | some (.arr _ z _ cs) => if 0 < n then .sl false n (((cs.drop off).take (n * z)).map (clo H k)) else .sl false 0 []
    | _ => .vw i off n
  | k + 1, .cut i n =>
    match H i with
    | some (.arr _ z _ cs) => .sl false n ((cs.take (n * z)).map (clo H k))
    | _ => .cut i n
  | _, p => p.weak

def cloV (H : Id → Option Blk) (k : Nat) : PV → PV
  | .one p => .one (clo H k p)
  | .agg ps => .agg (ps.map (clo H k))
  | .tup vs => .tup vs
  | .may b p => .may b p
  | .full p => .one (clo H k p)

section
variable {φ φ' : Id → Option Value} {w w' : World} {F F' : Bool → Nat → Prop}

mutual
theorem free_rep (hF : ∀ t g, F t g → F' t g) : ∀ (p : PC) (x : Value), p.free = true → rep φ w F p x → rep φ' w F' p x
  | .c v, x, _, h => by simpa only [rep] using h
  | .ifc, x, _, h => by simpa only [rep] using h
  | .any, x, _, h => by simpa only [rep] using h
  | .emp, x, _, h => by simpa only [rep] using h
  | .sl t n xs, x, hf, h => by
    simp only [rep, PC.free] at h hf ⊢
    obtain ⟨A, cap, hx, hn, h⟩ := h
    refine ⟨A, cap, hx, hn, ?_⟩
    rcases h with h | ⟨ad, ha, hg, h⟩
    · exact .inl h
    · exact .inr ⟨ad, ha, hF _ _ hg, free_repAt hF xs ad hf h⟩
  | .at t ys, x, hf, h => by
    simp only [rep, PC.free] at h hf ⊢
    obtain ⟨ad, hx, hg, h⟩ := h
    exact ⟨ad, hx, hF _ _ hg, free_repAt hF ys ad hf h⟩
  | .loc i off, x, hf, h => by simp [PC.free] at hf
  | .vw i off n, x, hf, h => by simp [PC.free] at hf
  | .cut i n, x, hf, h => by simp [PC.free] at hf
  | .rmp t ks ps, x, hf, h => by
    simp only [rep, PC.free] at h hf ⊢
    obtain ⟨g, ents, clock, hx, hg, hh, hk, hr⟩ := h
    exact ⟨g, ents, clock, hx, hF _ _ hg, hh, hk, free_reps hF ps _ hf hr⟩
  | .own i, x, hf, h => by simp [PC.free] at hf
  | .fn f caps, x, hf, h => by
    simp only [rep, PC.free] at h hf ⊢
    obtain ⟨vs, hx, h⟩ := h
    exact ⟨vs, hx, free_reps hF caps _ hf h⟩
  | .mth f caps, x, hf, h => by
    simp only [rep, PC.free] at h hf ⊢
    obtain ⟨vs, hx, h⟩ := h
    exact ⟨vs, hx, free_reps hF caps _ hf h⟩
theorem free_repAt (hF : ∀ t g, F t g → F' t g) : ∀ (ps : List PC) (ad : Addr), PC.frees ps = true → repAt φ w F ad ps → repAt φ' w F' ad ps
  | [], ad, _, _ => by simp [repAt]
  | p :: ps, ad, hf, h => by
    simp only [repAt, PC.frees, Bool.and_eq_true] at h hf ⊢
    obtain ⟨⟨v, hv, hr⟩, h⟩ := h
    exact ⟨⟨v, hv, free_rep hF p v hf.1 hr⟩, free_repAt hF ps _ hf.2 h⟩
theorem free_reps (hF : ∀ t g, F t g → F' t g) : ∀ (ps : List PC) (vs : List Value), PC.frees ps = true → reps φ w F ps vs → reps φ' w F' ps vs
  | [], vs, _, h => by simpa only [reps] using h
  | p :: ps, vs, hf, h => by
    simp only [reps, PC.frees, Bool.and_eq_true] at h hf ⊢
    obtain ⟨v, vs', he, hr, h⟩ := h
    exact ⟨v, vs', he, free_rep hF p v hf.1 hr, free_reps hF ps vs' hf.2 h⟩
end

mutual
theorem strict_rep (hF : ∀ g, F true g → F' true g) : ∀ (p : PC) (x : Value), p.strict = true → rep φ w F p x → rep φ w F' p x
  | .c v, x, _, h => by simpa only [rep] using h
  | .ifc, x, _, h => by simpa only [rep] using h
  | .any, x, _, h => by simpa only [rep] using h
  | .emp, x, _, h => by simpa only [rep] using h
  | .sl t n xs, x, hf, h => by
    simp only [rep, PC.strict, Bool.and_eq_true] at h hf ⊢
    obtain ⟨rfl, hf⟩ := hf
    obtain ⟨A, cap, hx, hn, h⟩ := h
    refine ⟨A, cap, hx, hn, ?_⟩
    rcases h with h | ⟨ad, ha, hg, h⟩
    · exact .inl h
    · exact .inr ⟨ad, ha, hF _ hg, strict_repAt hF xs ad hf h⟩
  | .at t ys, x, hf, h => by
    simp only [rep, PC.strict, Bool.and_eq_true] at h hf ⊢
    obtain ⟨rfl, hf⟩ := hf
    obtain ⟨ad, hx, hg, h⟩ := h
    exact ⟨ad, hx, hF _ hg, strict_repAt hF ys ad hf h⟩
  | .loc i off, x, _, h => by simpa only [rep] using h
  | .vw i off n, x, _, h => by simpa only [rep] using h
  | .cut i n, x, _, h => by simpa only [rep] using h
  | .rmp t ks ps, x, hf, h => by
    simp only [rep, PC.strict, Bool.and_eq_true] at h hf ⊢
    obtain ⟨rfl, hf⟩ := hf
    obtain ⟨g, ents, clock, hx, hg, hh, hk, hr⟩ := h
    exact ⟨g, ents, clock, hx, hF _ hg, hh, hk, strict_reps hF ps _ hf hr⟩
  | .own i, x, _, h => by simpa only [rep] using h
  | .fn f caps, x, hf, h => by
    simp only [rep, PC.strict] at h hf ⊢
    obtain ⟨vs, hx, h⟩ := h
    exact ⟨vs, hx, strict_reps hF caps _ hf h⟩
  | .mth f caps, x, hf, h => by
    simp only [rep, PC.strict] at h hf ⊢
    obtain ⟨vs, hx, h⟩ := h
    exact ⟨vs, hx, strict_reps hF caps _ hf h⟩
theorem strict_repAt (hF : ∀ g, F true g → F' true g) : ∀ (ps : List PC) (ad : Addr), PC.stricts ps = true → repAt φ w F ad ps → repAt φ w F' ad ps
  | [], ad, _, _ => by simp [repAt]
  | p :: ps, ad, hf, h => by
    simp only [repAt, PC.stricts, Bool.and_eq_true] at h hf ⊢
    obtain ⟨⟨v, hv, hr⟩, h⟩ := h
    exact ⟨⟨v, hv, strict_rep hF p v hf.1 hr⟩, strict_repAt hF ps _ hf.2 h⟩
theorem strict_reps (hF : ∀ g, F true g → F' true g) : ∀ (ps : List PC) (vs : List Value), PC.stricts ps = true → reps φ w F ps vs → reps φ w F' ps vs
  | [], vs, _, h => by simpa only [reps] using h
  | p :: ps, vs, hf, h => by
    simp only [reps, PC.stricts, Bool.and_eq_true] at h hf ⊢
    obtain ⟨v, vs', he, hr, h⟩ := h
    exact ⟨v, vs', he, strict_rep hF p v hf.1 hr, strict_reps hF ps vs' hf.2 h⟩
end
mutual
theorem strict_repV (hF : ∀ g, F true g → F' true g) : ∀ (p : PV) (x : Value), p.strict = true → repV φ w F p x → repV φ w F' p x
  | .one p, x, hf, h => by simp only [repV, PV.strict] at h hf ⊢; exact strict_rep hF p x hf h
  | .agg ps, x, hf, h => by
    simp only [repV, PV.strict] at h hf ⊢
    obtain ⟨vs, hx, h⟩ := h
    exact ⟨vs, hx, strict_reps hF ps _ hf h⟩
  | .tup vs, x, hf, h => by
    simp only [repV, PV.strict] at h hf ⊢
    obtain ⟨xs, hx, h⟩ := h
    exact ⟨xs, hx, strict_repVs hF vs _ hf h⟩
  | .may b p, x, hf, h => by simp [PV.strict] at hf
  | .full p, x, hf, h => by simp [PV.strict] at hf
theorem strict_repVs (hF : ∀ g, F true g → F' true g) : ∀ (ps : List PV) (xs : List Value), PV.stricts ps = true → repVs φ w F ps xs → repVs φ w F' ps xs
  | [], xs, _, h => by simpa only [repVs] using h
  | p :: ps, xs, hf, h => by
    simp only [repVs, PV.stricts, Bool.and_eq_true] at h hf ⊢
    obtain ⟨v, vs', he, hr, h⟩ := h
    exact ⟨v, vs', he, strict_repV hF p v hf.1 hr, strict_repVs hF ps vs' hf.2 h⟩
end

mutual
theorem weak_rep (hF : ∀ t g, F t g → F' false g) : ∀ (p : PC) (x : Value), rep φ w F p x → rep φ w F' p.weak x
  | .c v, x, h => by simpa only [rep, PC.weak] using h
  | .ifc, x, h => by simpa only [rep, PC.weak] using h
  | .any, x, h => by simpa only [rep, PC.weak] using h
  | .emp, x, h => by simpa only [rep, PC.weak] using h
  | .sl t n xs, x, h => by
    simp only [rep, PC.weak] at h ⊢
    obtain ⟨A, cap, hx, hn, h⟩ := h
    refine ⟨A, cap, hx, hn, ?_⟩
    rcases h with ⟨h, rfl⟩ | ⟨ad, ha, hg, h⟩
    · exact .inl ⟨h, by simp [PC.weaks]⟩
    · exact .inr ⟨ad, ha, hF _ _ hg, weak_repAt hF xs ad h⟩
  | .at t ys, x, h => by
    simp only [rep, PC.weak] at h ⊢
    obtain ⟨ad, hx, hg, h⟩ := h
    exact ⟨ad, hx, hF _ _ hg, weak_repAt hF ys ad h⟩
  | .loc i off, x, h => by simpa only [rep, PC.weak] using h
  | .vw i off n, x, h => by simpa only [rep, PC.weak] using h
  | .cut i n, x, h => by simpa only [rep, PC.weak] using h
  | .rmp t ks ps, x, h => by
    simp only [rep, PC.weak] at h ⊢
    obtain ⟨g, ents, clock, hx, hg, hh, hk, hr⟩ := h
    exact ⟨g, ents, clock, hx, hF _ _ hg, hh, hk, weak_reps hF ps _ hr⟩
  | .own i, x, h => by simpa only [rep, PC.weak] using h
  | .fn f caps, x, h => by
    simp only [rep, PC.weak] at h ⊢
    obtain ⟨vs, hx, h⟩ := h
    exact ⟨vs, hx, weak_reps hF caps _ h⟩
  | .mth f caps, x, h => by
    simp only [rep, PC.weak] at h ⊢
    obtain ⟨vs, hx, h⟩ := h
    exact ⟨vs, hx, weak_reps hF caps _ h⟩
theorem weak_repAt (hF : ∀ t g, F t g → F' false g) : ∀ (ps : List PC) (ad : Addr), repAt φ w F ad ps → repAt φ w F' ad (PC.weaks ps)
  | [], ad, _ => by simp [repAt, PC.weaks]
  | p :: ps, ad, h => by
    simp only [repAt, PC.weaks] at h ⊢
    obtain ⟨⟨v, hv, hr⟩, h⟩ := h
    exact ⟨⟨v, hv, weak_rep hF p v hr⟩, weak_repAt hF ps _ h⟩
theorem weak_reps (hF : ∀ t g, F t g → F' false g) : ∀ (ps : List PC) (vs : List Value), reps φ w F ps vs → reps φ w F' (PC.weaks ps) vs
  | [], vs, h => by simpa only [reps, PC.weaks] using h
  | p :: ps, vs, h => by
    simp only [reps, PC.weaks] at h ⊢
    obtain ⟨v, vs', he, hr, h⟩ := h
    exact ⟨v, vs', he, weak_rep hF p v hr, weak_reps hF ps vs' h⟩
end

mutual
theorem ren_rep {s : Nat} (hφ : ∀ j u, φ (0, j) = some u → φ' (s, j) = some u) (h0 : ∀ i, φ i ≠ none → i.1 = 0) : ∀ (p : PC) (x : Value), rep φ w F p x → rep φ' w F (p.ren s) x
  | .c v, x, h => by simpa only [rep, PC.ren] using h
  | .ifc, x, h => by simpa only [rep, PC.ren] using h
  | .any, x, h => by simpa only [rep, PC.ren] using h
  | .emp, x, h => by simpa only [rep, PC.ren] using h
  | .sl t n xs, x, h => by
    simp only [rep, PC.ren] at h ⊢
    obtain ⟨A, cap, hx, hn, h⟩ := h
    refine ⟨A, cap, hx, hn, ?_⟩
    rcases h with ⟨h, rfl⟩ | ⟨ad, ha, hg, h⟩
    · exact .inl ⟨h, by simp [PC.rens]⟩
    · exact .inr ⟨ad, ha, hg, ren_repAt hφ h0 xs ad h⟩
  | .at t ys, x, h => by
    simp only [rep, PC.ren] at h ⊢
    obtain ⟨ad, hx, hg, h⟩ := h
    exact ⟨ad, hx, hg, ren_repAt hφ h0 ys ad h⟩
  | .loc i off, x, h => by
    simp only [rep, PC.ren] at h ⊢
    obtain ⟨u, g, hu, hg, hx⟩ := h
    have h1 := h0 i (by rw [hu]; simp)
    obtain ⟨i1, i2⟩ := i
    simp at h1
    subst h1
    exact ⟨u, g, hφ _ _ hu, hg, hx⟩
  | .vw i off n, x, h => by
    simp only [rep, PC.ren] at h ⊢
    obtain ⟨u, A, cap, hu, hx⟩ := h
    have h1 := h0 i (by rw [hu]; simp)
    obtain ⟨i1, i2⟩ := i
    simp at h1
    subst h1
    exact ⟨u, A, cap, hφ _ _ hu, hx⟩
  | .cut i n, x, h => by
    simp only [rep, PC.ren] at h ⊢
    obtain ⟨A, N, cap, hu, hx⟩ := h
    have h1 := h0 i (by rw [hu]; simp)
    obtain ⟨i1, i2⟩ := i
    simp at h1
    subst h1
    exact ⟨A, N, cap, hφ _ _ hu, hx⟩
  | .rmp t ks ps, x, h => by
    simp only [rep, PC.ren] at h ⊢
    obtain ⟨g, ents, clock, hx, hg, hh, hk, hr⟩ := h
    exact ⟨g, ents, clock, hx, hg, hh, hk, ren_reps hφ h0 ps _ hr⟩
  | .own i, x, h => by
    simp only [rep, PC.ren] at h ⊢
    have h1 := h0 i (by rw [h.1]; simp)
    obtain ⟨i1, i2⟩ := i
    simp at h1
    subst h1
    exact ⟨hφ _ _ h.1, h.2⟩
  | .fn f caps, x, h => by
    simp only [rep, PC.ren] at h ⊢
    obtain ⟨vs, hx, h⟩ := h
    exact ⟨vs, hx, ren_reps hφ h0 caps _ h⟩
  | .mth f caps, x, h => by
    simp only [rep, PC.ren] at h ⊢
    obtain ⟨vs, hx, h⟩ := h
    exact ⟨vs, hx, ren_reps hφ h0 caps _ h⟩
theorem ren_repAt {s : Nat} (hφ : ∀ j u, φ (0, j) = some u → φ' (s, j) = some u) (h0 : ∀ i, φ i ≠ none → i.1 = 0) : ∀ (ps : List PC) (ad : Addr), repAt φ w F ad ps → repAt φ' w F ad (PC.rens s ps)
  | [], ad, _ => by simp [repAt, PC.rens]
  | p :: ps, ad, h => by
    simp only [repAt, PC.rens] at h ⊢
    obtain ⟨⟨v, hv, hr⟩, h⟩ := h
    exact ⟨⟨v, hv, ren_rep hφ h0 p v hr⟩, ren_repAt hφ h0 ps _ h⟩
theorem ren_reps {s : Nat} (hφ : ∀ j u, φ (0, j) = some u → φ' (s, j) = some u) (h0 : ∀ i, φ i ≠ none → i.1 = 0) : ∀ (ps : List PC) (vs : List Value), reps φ w F ps vs → reps φ' w F (PC.rens s ps) vs
  | [], vs, h => by simpa only [reps, PC.rens] using h
  | p :: ps, vs, h => by
    simp only [reps, PC.rens] at h ⊢
    obtain ⟨v, vs', he, hr, h⟩ := h
    exact ⟨v, vs', he, ren_rep hφ h0 p v hr, ren_reps hφ h0 ps vs' h⟩
end
mutual
theorem ren_repV {s : Nat} (hφ : ∀ j u, φ (0, j) = some u → φ' (s, j) = some u) (h0 : ∀ i, φ i ≠ none → i.1 = 0) : ∀ (p : PV) (x : Value), repV φ w F p x → repV φ' w F (p.ren s) x
  | .one p, x, h => by simp only [repV, PV.ren] at h ⊢; exact ren_rep hφ h0 p x h
  | .agg ps, x, h => by
    simp only [repV, PV.ren] at h ⊢
    obtain ⟨vs, hx, h⟩ := h
    exact ⟨vs, hx, ren_reps hφ h0 ps _ h⟩
  | .tup vs, x, h => by
    simp only [repV, PV.ren] at h ⊢
    obtain ⟨xs, hx, h⟩ := h
    exact ⟨xs, hx, ren_repVs hφ h0 vs _ h⟩
  | .may b p, x, h => by
    simp only [repV, PV.ren] at h ⊢
    exact ⟨fun e => ren_repV hφ h0 p x (h.1 e), h.2⟩
  | .full p, x, h => by
    simp only [repV, PV.ren] at h ⊢
    exact ⟨ren_rep hφ h0 p x h.1, h.2⟩
theorem ren_repVs {s : Nat} (hφ : ∀ j u, φ (0, j) = some u → φ' (s, j) = some u) (h0 : ∀ i, φ i ≠ none → i.1 = 0) : ∀ (ps : List PV) (xs : List Value), repVs φ w F ps xs → repVs φ' w F (PV.rens s ps) xs
  | [], xs, h => by simpa only [repVs, PV.rens] using h
  | p :: ps, xs, h => by
    simp only [repVs, PV.rens] at h ⊢
    obtain ⟨v, vs', he, hr, h⟩ := h
    exact ⟨v, vs', he, ren_repV hφ h0 p v hr, ren_repVs hφ h0 ps vs' h⟩
end
theorem ren_holds {s : Nat} {j : Nat} {b : Blk} (hφ : ∀ j u, φ (0, j) = some u → φ' (s, j) = some u) (h0 : ∀ i, φ i ≠ none → i.1 = 0) (h : holds φ w F (0, j) b) : holds φ' w F (s, j) (b.ren s) := by
  cases b with
  | box ty cells =>
    obtain ⟨g, vs, hp, hh, hr⟩ := h
    exact ⟨g, vs, hφ _ _ hp, hh, ren_reps hφ h0 _ _ hr⟩
  | arr ty size n cells =>
    obtain ⟨v, vs, hp, hh, hr⟩ := h
    exact ⟨v, vs, hφ _ _ hp, hh, ren_reps hφ h0 _ _ hr⟩
  | mp ty es =>
    obtain ⟨g, ents, clock, hp, hh, hk, hr⟩ := h
    refine ⟨g, ents, clock, hφ _ _ hp, hh, by rw [hk, List.map_map]; rfl, ?_⟩
    have := ren_reps hφ h0 _ _ hr
    rw [rens_mapG, List.map_map] at this
    rw [List.map_map]
    exact this
theorem strict_holds {i : Id} {b : Blk} (hF : ∀ g, F true g → F' true g) (hs : PC.stricts b.kids = true) (h : holds φ w F i b) : holds φ w F' i b := by
  cases b with
  | box ty cells =>
    obtain ⟨g, vs, hp, hh, hr⟩ := h
    exact ⟨g, vs, hp, hh, strict_reps hF _ _ hs hr⟩
  | arr ty size n cells =>
    obtain ⟨v, vs, hp, hh, hr⟩ := h
    exact ⟨v, vs, hp, hh, strict_reps hF _ _ hs hr⟩
  | mp ty es =>
    obtain ⟨g, ents, clock, hp, hh, hk, hr⟩ := h
    exact ⟨g, ents, clock, hp, hh, hk, strict_reps hF _ _ hs hr⟩
end
end Go.Vm
end
