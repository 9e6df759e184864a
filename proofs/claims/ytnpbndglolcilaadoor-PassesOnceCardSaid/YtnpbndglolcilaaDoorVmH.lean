/-
  Abstract states over the model's worlds, and that a step of them is a step of the program: part H of a framework. Conditions: each theorem's own premises. By an AI agent.
-/
import Derived.Test.YtnpbndglolcilaaDoorVmG
namespace Go.Vm
open Go Go.RowKit
set_option linter.unusedVariables false
set_option linter.unusedSimpArgs false
section
variable {ρ : Operand → Option PV} {H : Id → Option Blk} {C : Ctx} {φ φ' : Id → Option Value} {F : Bool → Nat → Prop} {F0 F1 : Nat → Prop} {σ : St} {a : Act} {w w' : World} {P : Program} {i : Id} {p : PV} {ob : Option Blk}
variable {d : Option Tmp} {ty : TypeId} {pos : String} {af : Array Edge} {gd : Option (Nat × Bool)}

theorem run_indexAt' {t e : TypeId} {s : Nat} (hu : P.underlying t = some (.slice e)) (hs : szT P e = some s) (ad : Addr) (len cap : Nat) (k : IntKind) (j : Int) (h0 : 0 ≤ j) (h1 : j < len) (w : World) :
    (Instr.indexAt t (.slice (some ad) len cap) (.int k j)).run P w = .ok (.pointer (some (ad.add (j.toNat * s)))) w := by
  simp [Instr.indexAt, run_underlying hu, asIntOf, h0, h1, run_sizeOf' hs]

theorem elemT_spec {t e : TypeId} (h : elemT P t = some e) : P.underlying t = some (.slice e) := by
  unfold elemT at h
  split at h
  · cases h; assumption
  · cases h

theorem vAdd_indexAddr (h : RelX C φ F0 F1 σ a w) (V : View φ w (Fs F0 F1) a σ ρ H) {t : TypeId} {x j : Operand} (hv : vAdd C.P i ρ H (.indexAddr t x j) = some (p, ob)) :
    Runs C φ (Fs F0 F1) i a w ⟨d, .indexAddr t x j, ty, pos, af, gd⟩ p ob := by
  simp only [vAdd] at hv
  split at hv
  · rename_i q k n hx hj
    obtain ⟨r, hr, he⟩ := Option.map_eq_some_iff.1 hv
    cases he
    obtain ⟨qj, hqj, hj⟩ := Option.bind_eq_some_iff.1 hj
    have hxr := V.ev hx
    have hjr := asI_rep (V.ev hqj) hj
    unfold vidx at hr
    split at hr
    · split at hr
      · rename_i e he
        split at hr
        · rename_i s hs
          split at hr
          · cases hr
            rename_i hb
            simp only [repV, rep] at hxr
            obtain ⟨A, cap, hxe, hle, hd⟩ := hxr
            rcases hd with ⟨hz, _⟩ | ⟨ad, rfl, hF, hat⟩
            · omega
            · refine ⟨_, w, ?_, none_out (p := .one (.at _ _)) (x := .pointer (some (ad.add (n.toNat * s)))) ?_⟩
              · simp only [execOp, hxe, hjr, Sem.run_bind, run_indexAt' (elemT_spec he) hs _ _ _ _ _ hb.1 hb.2, Result.andThen_ok, Sem.run_pure]
              · simp only [repV, rep]
                exact ⟨_, rfl, by rw [add_block]; exact hF, repAt_drop hat _⟩
          · cases hr
        · cases hr
      · cases hr
    · split at hr
      · rename_i e he
        split at hr
        · rename_i s _ sz m _ hs hH
          split at hr
          · cases hr
            rename_i hb
            simp only [repV, rep] at hxr
            obtain ⟨hφ, _⟩ := hxr
            have hh := h.heap _ _ (V.heap hH)
            obtain ⟨v, vs, hv', ⟨hl, ho⟩, hrs⟩ := hh
            rw [hφ] at hv'
            cases hv'
            rcases ho with ⟨_, hz⟩ | ⟨g, cap, cur, hve, _, hc, hn, _, _, _⟩
            · omega
            · refine ⟨_, w, ?_, none_out (p := .one (.loc _ (n.toNat * s))) (x := .pointer (some ((⟨g, 0, none⟩ : Addr).add (n.toNat * s)))) ?_⟩
              · simp only [execOp, hve, hjr, Sem.run_bind, run_indexAt' (elemT_spec he) hs _ _ _ _ _ hb.1 hb.2, Result.andThen_ok, Sem.run_pure]
              · simp only [repV, rep]
                exact ⟨_, g, hφ, by rw [hve]; rfl, by rw [Addr.add_lit, Nat.zero_add]⟩
          · cases hr
        · cases hr
      · cases hr
    · cases hr
  · cases hv

theorem vAdd_index (h : RelX C φ F0 F1 σ a w) (V : View φ w (Fs F0 F1) a σ ρ H) {t : TypeId} {x j : Operand} (hv : vAdd C.P i ρ H (.index t x j) = some (p, ob)) :
    Runs C φ (Fs F0 F1) i a w ⟨d, .index t x j, ty, pos, af, gd⟩ p ob := by
  simp only [vAdd] at hv
  split at hv
  · rename_i s k n hx hj hu
    split at hv
    · cases hv
      rename_i hb
      obtain ⟨qx, hqx, hx⟩ := Option.bind_eq_some_iff.1 hx
      obtain ⟨qj, hqj, hj⟩ := Option.bind_eq_some_iff.1 hj
      refine ⟨_, w, ?_, none_out (p := .one (.c (.int .u8 (byteAt s n.toNat).toNat))) (x := .int .u8 (byteAt s n.toNat).toNat) (by simp only [repV, rep]; exact ⟨trivial, rfl⟩)⟩
      have hlt : n.toNat < s.size := by omega
      have hg : s[n.toNat]? = some (byteAt s n.toNat) := by
        have h1 : s[n.toNat]? = some (s[n.toNat]'hlt) := getElem?_pos s n.toNat hlt
        rw [h1]
        congr 1
        unfold byteAt
        have h2 : n.toNat < s.data.toList.length := by simpa using hlt
        rw [List.getD_eq_getElem?_getD, List.getElem?_eq_getElem h2]
        simp
        rfl
      simp [execOp, asS_rep (V.ev hqx) hx, asI_rep (V.ev hqj) hj, Instr.index, asIntOf, run_underlying hu, hb.1, hg]
    · cases hv
  · cases hv

theorem vAdd_slice (h : RelX C φ F0 F1 σ a w) (V : View φ w (Fs F0 F1) a σ ρ H) {t : TypeId} {x : Operand} {lo hi mx : Option Operand} (hv : vAdd C.P i ρ H (.slice t x lo hi mx) = some (p, ob)) :
    Runs C φ (Fs F0 F1) i a w ⟨d, .slice t x lo hi mx, ty, pos, af, gd⟩ p ob := by
  simp only [vAdd] at hv
  split at hv
  · rename_i s hx hu
    split at hv
    · rename_i k1 l k2 hh hl hh'
      split at hv
      · cases hv
        rename_i hb
        obtain ⟨qx, hqx, hx⟩ := Option.bind_eq_some_iff.1 hx
        refine ⟨_, w, ?_, none_out (p := .one (.c (.string (s.extract l.toNat hh.toNat)))) (x := .string (s.extract l.toNat hh.toNat)) (by simp only [repV, rep]; exact ⟨trivial, rfl⟩)⟩
        have e1 : ∀ y : Nat, hh ≤ y → ∀ v : Value, v = .int .i64 hh ∨ (∃ k, v = .int k hh) → True := fun _ _ _ _ => trivial
        cases lo with
        | none =>
          simp at hl
          obtain ⟨_, rfl⟩ := hl
          cases hi with
          | none =>
            simp at hh'
            obtain ⟨_, rfl⟩ := hh'
            simp [execOp, asS_rep (V.ev hqx) hx, Instr.sliceAt, Instr.slice, run_underlying hu, Instr.sliceBounds]
          | some hi =>
            simp only at hh'
            obtain ⟨qh, hqh, hh'⟩ := Option.bind_eq_some_iff.1 hh'
            simp [execOp, asS_rep (V.ev hqx) hx, Instr.sliceAt, Instr.slice, run_underlying hu, Instr.sliceBounds, Instr.sliceBound, asI_rep (V.ev hqh) hh', asIntOf, hb.2.1, hb.2.2]
        | some lo =>
          simp only at hl
          obtain ⟨ql, hql, hl⟩ := Option.bind_eq_some_iff.1 hl
          cases hi with
          | none =>
            simp at hh'
            obtain ⟨_, rfl⟩ := hh'
            have h2 : l ≤ (s.size : Int) := hb.2.1
            simp [execOp, asS_rep (V.ev hqx) hx, Instr.sliceAt, Instr.slice, run_underlying hu, Instr.sliceBounds, Instr.sliceBound, asI_rep (V.ev hql) hl, asIntOf, hb.1, h2]
          | some hi =>
            simp only at hh'
            obtain ⟨qh, hqh, hh'⟩ := Option.bind_eq_some_iff.1 hh'
            have h3 : 0 ≤ hh := by omega
            have h4 : l ≤ max hh 0 := by omega
            simp [execOp, asS_rep (V.ev hqx) hx, Instr.sliceAt, Instr.slice, run_underlying hu, Instr.sliceBounds, Instr.sliceBound, asI_rep (V.ev hql) hl, asI_rep (V.ev hqh) hh', asIntOf, hb.1, hb.2.2, h3, h4]
      · cases hv
    · cases hv
  · cases hv
end
end Go.Vm
