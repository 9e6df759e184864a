/-
  Contracts of the library, and a run that is computed (PtAJ). Conditions: each theorem's own premises. By an AI agent.
-/
import Derived.Test.YtahbpfahgggjhaaGreatVmAI
import Derived.Test.YtahbpfahgggjhaaGreatVmAG
import Derived.WalkKit
import Derived.Lib.Walk
import Derived.Lib.SliceRun
import Derived.Test.YtahbpfahgggjhaaGreatProg
section
namespace Go.Vm
open Go Go.RowKit
set_option linter.unusedVariables false

/-! ### Names anew, computed -/
noncomputable def lookM (i : Id) : List (Id × Id) → Option Id
  | [] => none
  | (a, b) :: m => if a = i then some b else lookM i m
theorem lookM_mem {i j : Id} : ∀ {m : List (Id × Id)}, lookM i m = some j → (i, j) ∈ m
  | [], h => by cases h
  | (a, b) :: m, h => by
    unfold lookM at h
    split at h
    · rename_i e; cases h; subst e; simp
    · exact List.mem_cons_of_mem _ (lookM_mem h)
mutual
noncomputable def rnC (m : List (Id × Id)) : PC → Option PC
  | .c v => some (.c v)
  | .ifc => some .ifc
  | .emp => some .emp
  | .sl t n xs =>
    match rnCs m xs with
    | some xs' => some (.sl t n xs')
    | none => none
  | .at t xs =>
    match rnCs m xs with
    | some xs' => some (.at t xs')
    | none => none
  | .loc i off =>
    match lookM i m with
    | some j => some (.loc j off)
    | none => none
  | .vw i off n =>
    match lookM i m with
    | some j => some (.vw j off n)
    | none => none
  | .cut i n =>
    match lookM i m with
    | some j => some (.cut j n)
    | none => none
  | .rmp t ks xs =>
    match rnCs m xs with
    | some xs' => some (.rmp t ks xs')
    | none => none
  | .own i =>
    match lookM i m with
    | some j => some (.own j)
    | none => none
  | .fn f xs =>
    match rnCs m xs with
    | some xs' => some (.fn f xs')
    | none => none
  | .mth f xs =>
    match rnCs m xs with
    | some xs' => some (.mth f xs')
    | none => none
noncomputable def rnCs (m : List (Id × Id)) : List PC → Option (List PC)
  | [] => some []
  | p :: ps =>
    match rnC m p, rnCs m ps with
    | some p', some ps' => some (p' :: ps')
    | _, _ => none
end
section
variable {H : Id → Option Blk} {Z : Id → Prop} {m : List (Id × Id)}
mutual
theorem rnC_ok : ∀ {p p' : PC}, rnC m p = some p' → Conv H Z (fun i j => (i, j) ∈ m) p p'
  | .c v, p', h => by unfold rnC at h; cases h; exact .free rfl
  | .ifc, p', h => by unfold rnC at h; cases h; exact .free rfl
  | .emp, p', h => by unfold rnC at h; cases h; exact .free rfl
  | .sl t n xs, p', h => by
    unfold rnC at h
    split at h
    · rename_i xs' hx; cases h; exact .sl id (rnCs_ok hx)
    · cases h
  | .at t xs, p', h => by
    unfold rnC at h
    split at h
    · rename_i xs' hx; cases h; exact .at id (rnCs_ok hx)
    · cases h
  | .loc i off, p', h => by
    unfold rnC at h
    split at h
    · rename_i j hj; cases h; exact .loc (lookM_mem hj)
    · cases h
  | .vw i off n, p', h => by
    unfold rnC at h
    split at h
    · rename_i j hj; cases h; exact .vw (lookM_mem hj)
    · cases h
  | .cut i n, p', h => by
    unfold rnC at h
    split at h
    · rename_i j hj; cases h; exact .cut (lookM_mem hj)
    · cases h
  | .rmp t ks xs, p', h => by
    unfold rnC at h
    split at h
    · rename_i xs' hx; cases h; exact .rmp id (rnCs_ok hx)
    · cases h
  | .own i, p', h => by
    unfold rnC at h
    split at h
    · rename_i j hj; cases h; exact .own (lookM_mem hj)
    · cases h
  | .fn f xs, p', h => by
    unfold rnC at h
    split at h
    · rename_i xs' hx; cases h; exact .fn (rnCs_ok hx)
    · cases h
  | .mth f xs, p', h => by
    unfold rnC at h
    split at h
    · rename_i xs' hx; cases h; exact .mth (rnCs_ok hx)
    · cases h
theorem rnCs_ok : ∀ {ps ps' : List PC}, rnCs m ps = some ps' → ConvL H Z (fun i j => (i, j) ∈ m) ps ps'
  | [], ps', h => by unfold rnCs at h; cases h; exact .nil
  | p :: ps, ps', h => by
    unfold rnCs at h
    split at h
    · rename_i q qs hq hqs; cases h; exact .cons (rnC_ok hq) (rnCs_ok hqs)
    · cases h
end
end
mutual
noncomputable def rnV (m : List (Id × Id)) : PV → Option PV
  | .one p =>
    match rnC m p with
    | some p' => some (.one p')
    | none => none
  | .agg ps =>
    match rnCs m ps with
    | some ps' => some (.agg ps')
    | none => none
  | .tup vs =>
    match rnVs m vs with
    | some vs' => some (.tup vs')
    | none => none
  | .may _ _ => none
noncomputable def rnVs (m : List (Id × Id)) : List PV → Option (List PV)
  | [] => some []
  | p :: ps =>
    match rnV m p, rnVs m ps with
    | some p', some ps' => some (p' :: ps')
    | _, _ => none
end
section
variable {H : Id → Option Blk} {Z : Id → Prop} {m : List (Id × Id)}
mutual
theorem rnV_ok : ∀ {p p' : PV}, rnV m p = some p' → ConvV H Z (fun i j => (i, j) ∈ m) p p'
  | .one p, p', h => by
    unfold rnV at h
    split at h
    · rename_i q hq; cases h; exact .one (rnC_ok hq)
    · cases h
  | .agg ps, p', h => by
    unfold rnV at h
    split at h
    · rename_i q hq; cases h; exact .agg (rnCs_ok hq)
    · cases h
  | .tup vs, p', h => by
    unfold rnV at h
    split at h
    · rename_i q hq; cases h; exact .tup (rnVs_ok hq)
    · cases h
  | .may _ _, p', h => by unfold rnV at h; cases h
theorem rnVs_ok : ∀ {ps ps' : List PV}, rnVs m ps = some ps' → ConvVs H Z (fun i j => (i, j) ∈ m) ps ps'
  | [], ps', h => by unfold rnVs at h; cases h; exact .nil
  | p :: ps, ps', h => by
    unfold rnVs at h
    split at h
    · rename_i q qs hq hqs; cases h; exact .cons (rnV_ok hq) (rnVs_ok hqs)
    · cases h
end
end
noncomputable def rnE (m : List (Id × Id)) : List (Value × PC) → Option (List (Value × PC))
  | [] => some []
  | e :: es =>
    match rnC m e.2, rnE m es with
    | some p, some es' => some ((e.1, p) :: es')
    | _, _ => none
theorem rnE_ok {H : Id → Option Blk} {Z : Id → Prop} {m : List (Id × Id)} : ∀ {es es' : List (Value × PC)}, rnE m es = some es' → es.map (·.1) = es'.map (·.1) ∧ ConvL H Z (fun i j => (i, j) ∈ m) (es.map (·.2)) (es'.map (·.2))
  | [], es', h => by cases h; exact ⟨rfl, .nil⟩
  | e :: es, es', h => by
    unfold rnE at h
    split at h
    · rename_i p es1 hp he
      cases h
      obtain ⟨h1, h2⟩ := rnE_ok (H := H) (Z := Z) he
      exact ⟨by rw [List.map_cons, List.map_cons, h1], .cons (rnC_ok hp) h2⟩
    · cases h
noncomputable def rnB (m : List (Id × Id)) : Blk → Option Blk
  | .box ty cs =>
    match rnCs m cs with
    | some cs' => some (.box ty cs')
    | none => none
  | .arr ty z n cs =>
    match rnCs m cs with
    | some cs' => some (.arr ty z n cs')
    | none => none
  | .mp ty es =>
    match rnE m es with
    | some es' => some (.mp ty es')
    | none => none
theorem rnB_ok {H : Id → Option Blk} {Z : Id → Prop} {m : List (Id × Id)} {b b' : Blk} (h : rnB m b = some b') : ConvB H Z (fun i j => (i, j) ∈ m) b b' := by
  cases b with
  | box ty cs =>
    unfold rnB at h
    simp only at h
    split at h
    · rename_i q hq; cases h; exact .box (rnCs_ok hq)
    · cases h
  | arr ty z n cs =>
    unfold rnB at h
    simp only at h
    split at h
    · rename_i q hq; cases h; exact .arr (rnCs_ok hq)
    · cases h
  | mp ty es =>
    unfold rnB at h
    simp only at h
    split at h
    · rename_i q hq; cases h; exact .mp (rnE_ok (H := H) (Z := Z) hq).1 (rnE_ok hq).2
    · cases h

noncomputable def nodupB : List Id → Bool
  | [] => true
  | i :: l => !l.contains i && nodupB l
theorem nodupB_ok : ∀ {l : List Id}, nodupB l = true → l.Nodup
  | [], _ => List.nodup_nil
  | i :: l, h => by
    unfold nodupB at h
    rw [Bool.and_eq_true] at h
    refine List.nodup_cons.2 ⟨?_, nodupB_ok h.2⟩
    have := h.1
    simpa using this

noncomputable def PV.ids : PV → List Id
  | .one p => p.ids
  | .agg ps => PC.idss ps
  | _ => []
/-- Between two rounds the names are told anew. -/
theorem RelX.nextN {C : Ctx} {φ : Id → Option Value} {F0 F1 : Nat → Prop} {σ : St} {a : Act} {w : World} (n : Nat) (h : RelX C φ F0 F1 σ a w) (hus : ∀ d, σ.us d = true → d < n) : RelX C φ F0 F1 { σ with us := fun _ => false, nx := σ.nx + n } a w := by
  refine ⟨h.size, h.defs, h.frame, h.heap, h.inj, h.apart, h.sub, h.ini, h.new1, h.lt0, h.os, h.tape, h.output, h.big, h.kept, h.k0lt, h.gbig, h.glob, h.keep, by have := h.nx1; simp only; omega, fun i hi => ?_, h.ghost⟩
  left
  rcases h.ids i hi with h0 | ⟨d, hd, h0⟩
  · simp; omega
  · have := hus d hd
    simp; omega
noncomputable def ltAll (n : Nat) (l : List Nat) : Bool := List.rec (motive := fun _ => Bool) true (fun a _ ih => cond (Nat.blt a n) ih false) l
theorem ltAll_ok {n : Nat} : ∀ {l : List Nat}, ltAll n l = true → ∀ d, memN d l = true → d < n
  | [], _, d, hd => by cases hd
  | a :: l, h, d, hd => by
    have h : cond (Nat.blt a n) (ltAll n l) false = true := h
    cases hb : Nat.blt a n with
    | false => rw [hb] at h; cases h
    | true =>
      rw [hb] at h
      rcases List.mem_cons.1 (memN_iff.1 hd) with rfl | hm
      · exact Nat.le_of_ble_eq_true hb
      · exact ltAll_ok h d (memN_iff.2 hm)
noncomputable def tidyS (nt : Nat) (s : S) : Option S :=
  match s with
  | ⟨fr, H, us, nx, al⟩ => cond al (cond (ltAll nt us) (cond (Nat.beq (Nat.add nx nt) 0) none (some ⟨fr, H, [], Nat.add nx nt, false⟩)) none) (some ⟨fr, H, us, nx, al⟩)
theorem tidyS_ok {C : Ctx} {nt : Nat} {s s' : S} (h : tidyS nt s = some s') : Wk C s.abs s'.abs := by
  obtain ⟨fr, H, us, nx, al⟩ := s
  unfold tidyS at h
  simp only at h
  cases al with
  | false => cases h; exact fun _ _ _ _ r => r
  | true =>
    simp only [cond_true] at h
    cases hu : ltAll nt us with
    | false => rw [hu] at h; cases h
    | true =>
      rw [hu] at h
      cases hz : Nat.beq (Nat.add nx nt) 0 with
      | true => rw [hz] at h; cases h
      | false =>
        rw [hz] at h
        cases h
        rintro C₁ _ a w ⟨φ, F0, F1, r⟩
        exact ⟨φ, F0, F1, r.nextN nt (ltAll_ok hu)⟩
end Go.Vm
end

section
namespace Go.Vm
open Go Go.RowKit
set_option linter.unusedVariables false

/-! ### Code, computed -/
mutual
noncomputable def evC (P : Program) (nt : Nat) (cx : Cx) (io : Io) : Nat → Code → S → Option (Exit × S)
  | 0, _, _ => none
  | n + 1, c, s =>
    match c with
    | .skip => some (.normal, s)
    | .label _ => some (.normal, s)
    | .exit id => some (.exit id, s)
    | .goto l => some (.goto l, s)
    | .ret => some (.ret, s)
    | .region _ ops draw =>
      match regS P nt cx io ops.toList draw s with
      | some s' => some (.normal, s')
      | none => none
    | .seq a b =>
      match evC P nt cx io n a s with
      | some (.normal, s') => evC P nt cx io n b s'
      | r => r
    | .cond o x y =>
      match (ev s.fr.getF o).bind asB with
      | some true => evC P nt cx io n x s
      | some false => evC P nt cx io n y s
      | none => none
    | .block id b =>
      match evC P nt cx io n b s with
      | some (.exit id', s') => if id' = id then some (.normal, s') else some (.exit id', s')
      | r => r
    | .loop b =>
      match evC P nt cx io n b s with
      | some (.normal, s') =>
        match tidyS nt s' with
        | some s'' => evC P nt cx io n (.loop b) s''
        | none => none
      | r => r
    | .scope b =>
      match evC P nt cx io n b s with
      | some (.goto l, s') =>
        match findLabel b l, tidyS nt s' with
        | some rest, some s'' => evJ P nt cx io n l rest s''
        | _, _ => none
      | r => r
    | _ => none
/-- From a label on, jumping back to it. -/
noncomputable def evJ (P : Program) (nt : Nat) (cx : Cx) (io : Io) : Nat → Nat → Code → S → Option (Exit × S)
  | 0, _, _, _ => none
  | n + 1, l, rest, s =>
    match evC P nt cx io n rest s with
    | some (.goto l', s') =>
      if l' = l then
        match tidyS nt s' with
        | some s'' => evJ P nt cx io n l rest s''
        | none => none
      else none
    | r => r
end

theorem wk_refl {C : Ctx} {σ : St} : Wk C σ σ := fun _ _ _ _ r => r

theorem evC_ok {C : Ctx} {cx : Cx} {io : Io} (hk : Knows C.P C.gw C.gb cx io) (hcu : C.cut = true) (hm : C.P.follows .mixedOrders = true) : ∀ (n : Nat) (c : Code) (s s' : S) (e : Exit) (Q : Post),
    evC C.P C.nt cx io n c s = some (e, s') → Q e s'.abs → vwp C c Q s.abs := by
  intro n
  induction n using Nat.strongRecOn with
  | ind n ih =>
  intro c s s' e Q h hQ
  match n, h, ih with
  | 0, h, _ => cases h
  | n + 1, h, ih =>
    have ihn := ih n (Nat.lt_succ_self n)
    cases c with
    | skip => unfold evC at h; cases h; exact vwp_skip hQ
    | label l => unfold evC at h; cases h; exact vwp_label hQ
    | exit id => unfold evC at h; cases h; exact vwp_exit hQ
    | goto l => unfold evC at h; cases h; exact vwp_goto hQ
    | ret => unfold evC at h; cases h; exact vwp_ret hQ
    | region id ops draw =>
      unfold evC at h
      simp only at h
      split at h
      · rename_i s1 h1
        cases h
        exact regS_ok hk hcu hm h1 hQ
      · cases h
    | seq a b =>
      unfold evC at h
      simp only at h
      refine vwp_seq fun K hK => ?_
      split at h
      · rename_i s1 h1
        exact ihn a s s1 .normal (thenQ K Q) h1 (hK _ (ihn b s1 s' e Q h hQ))
      · rename_i r hr
        refine ihn a s s' e (thenQ K Q) h ?_
        cases e
        case normal => exact absurd h (hr _)
        all_goals exact hQ
    | cond o x y =>
      unfold evC at h
      simp only at h
      split at h
      · rename_i hb
        exact vwp_cond hb (fun _ => ihn x s s' e Q h hQ) (fun hf => by cases hf)
      · rename_i hb
        exact vwp_cond hb (fun hf => by cases hf) (fun _ => ihn y s s' e Q h hQ)
      · cases h
    | block id b =>
      unfold evC at h
      simp only at h
      refine vwp_block ?_
      split at h
      · rename_i id' s1 h1
        split at h
        · rename_i hid
          cases h
          exact ihn b s _ _ (blockQ id Q) h1 (by show (if id' = id then _ else _); rw [if_pos hid]; exact hQ)
        · rename_i hid
          cases h
          exact ihn b s _ _ (blockQ id Q) h1 (by show (if id' = id then _ else _); rw [if_neg hid]; exact hQ)
      · rename_i r hr
        refine ihn b s s' e (blockQ id Q) h ?_
        cases e
        case exit id' => exact absurd h (hr _ _)
        all_goals exact hQ
    | loop b =>
      refine vwp_loop (fun m τ => m ≤ n + 1 ∧ ∃ t t' e', τ = t.abs ∧ evC C.P C.nt cx io m (.loop b) t = some (e', t') ∧ Q e' t'.abs) (n + 1) ⟨s.abs, wk_refl, Nat.le_refl _, s, s', e, rfl, h, hQ⟩ ?_
      rintro m τ ⟨hmn, t, t', e', rfl, ht, hq⟩ K hK
      match m, hmn, ht, hK with
      | 0, _, ht, _ => cases ht
      | m + 1, hmn, ht, hK =>
        unfold evC at ht
        simp only at ht
        have ihm := ih m (by omega)
        split at ht
        · rename_i s1 h1
          split at ht
          · rename_i s2 h2
            exact ihm b t s1 .normal (thenQ K Q) h1 (hK s1.abs m s2.abs (Nat.lt_succ_self m) (tidyS_ok h2) ⟨by omega, s2, t', e', rfl, ht, hq⟩)
          · cases ht
        · rename_i r hr
          refine ihm b t t' e' (thenQ K Q) ht ?_
          cases e'
          case normal => exact absurd ht (hr _)
          all_goals exact hq
    | scope b =>
      unfold evC at h
      simp only at h
      split at h
      · rename_i l s1 h1
        split at h
        · rename_i rest s2 hf h2
          refine vwp_scope (rest := rest) l (fun m τ => m ≤ n ∧ ∃ t t' e', τ = t.abs ∧ evJ C.P C.nt cx io m l rest t = some (e', t') ∧ Q e' t'.abs) (fun _ => hf) ?_ ?_
          · exact ihn b s s1 (.goto l) _ h1 ⟨rfl, n, s2.abs, tidyS_ok h2, Nat.le_refl _, s2, s', e, rfl, h, hQ⟩
          · rintro m τ ⟨hmn, t, t', e', rfl, ht, hq⟩ K hK
            match m, hmn, ht, hK with
            | 0, _, ht, _ => simp [evJ] at ht
            | m + 1, hmn, ht, hK =>
              unfold evJ at ht
              have ihm := ih m (by omega)
              split at ht
              · rename_i l' s3 h3
                split at ht
                · rename_i hl
                  subst hl
                  split at ht
                  · rename_i s4 h4
                    exact ihm rest t s3 (.goto l') _ h3 ⟨rfl, hK s3.abs m s4.abs (Nat.lt_succ_self m) (tidyS_ok h4) ⟨by omega, s4, t', e', rfl, ht, hq⟩⟩
                  · cases ht
                · cases ht
              · rename_i r hr
                refine ihm rest t t' e' _ ht ?_
                cases e'
                case goto l' => exact absurd ht (hr _ _)
                all_goals exact hq
        · cases h
      · rename_i r hr
        refine vwp_scope (rest := .skip) 0 (fun _ _ => False) (fun ⟨_, _, h⟩ => h.elim) ?_ (fun _ _ h => h.elim)
        refine ihn b s s' e _ h ?_
        cases e
        case goto l => exact absurd h (hr _ _)
        all_goals exact hQ
    | _ => unfold evC at h; cases h
end Go.Vm
end

section
namespace Go.Vm
open Go Go.RowKit
set_option linter.unusedVariables false

/-! ### Functions, computed -/
theorem pair_right {m : List (Id × Id)} (hn : (m.map (·.2)).Nodup) {i i' j : Id} (h1 : (i, j) ∈ m) (h2 : (i', j) ∈ m) : i = i' := by
  induction m with
  | nil => cases h1
  | cons c m ih =>
    simp only [List.map_cons, List.nodup_cons, List.mem_map, not_exists, not_and] at hn
    rcases List.mem_cons.1 h1 with e1 | e1 <;> rcases List.mem_cons.1 h2 with e2 | e2
    · rw [← e1] at e2; cases e2; rfl
    · exact absurd (by rw [← e1]) (hn.1 _ e2)
    · exact absurd (by rw [← e2]) (hn.1 _ e1)
    · exact ih hn.2 e1 e2
theorem pair_left {m : List (Id × Id)} (hn : (m.map (·.1)).Nodup) {i j j' : Id} (h1 : (i, j) ∈ m) (h2 : (i, j') ∈ m) : j = j' := by
  induction m with
  | nil => cases h1
  | cons c m ih =>
    simp only [List.map_cons, List.nodup_cons, List.mem_map, not_exists, not_and] at hn
    rcases List.mem_cons.1 h1 with e1 | e1 <;> rcases List.mem_cons.1 h2 with e2 | e2
    · rw [← e1] at e2; cases e2; rfl
    · exact absurd (by rw [← e1]) (hn.1 _ e2)
    · exact absurd (by rw [← e2]) (hn.1 _ e1)
    · exact ih hn.2 e1 e2

noncomputable def PV.idT : PV → List Id
  | .tup vs => vs.flatMap PV.ids
  | p => p.ids
noncomputable def numR : Nat → List Id → List (Id × Id)
  | _, [] => []
  | k, i :: l => (i, (0, k)) :: numR (k + 1) l
theorem numR_get : ∀ {l : List Id} {k j : Nat} {i : Id}, l[j]? = some i → (i, (0, k + j)) ∈ numR k l
  | [], k, j, i, h => by simp at h
  | a :: l, k, 0, i, h => by
    simp at h; subst h; simp [numR]
  | a :: l, k, j + 1, i, h => by
    have ih := numR_get (k := k + 1) (j := j) (l := l) (i := i) (by simpa using h)
    rw [show k + (j + 1) = k + 1 + j by omega]
    exact List.mem_cons_of_mem _ ih
noncomputable def rnBs (s : S) (m : List (Id × Id)) : List Id → Option (List Blk)
  | [] => some []
  | i :: l =>
    match (getH s.H i).bind (rnB m), rnBs s m l with
    | some b, some l' => some (b :: l')
    | _, _ => none
theorem rnBs_get {s : S} {m : List (Id × Id)} : ∀ {l : List Id} {B : List Blk} {j : Nat} {b' : Blk}, rnBs s m l = some B → B[j]? = some b' → ∃ i b, l[j]? = some i ∧ getH s.H i = some b ∧ rnB m b = some b'
  | [], B, j, b', h, hb => by cases h; simp at hb
  | i :: l, B, j, b', h, hb => by
    unfold rnBs at h
    split at h
    · rename_i b0 l' h1 h2
      cases h
      cases j with
      | zero =>
        simp at hb; subst hb
        obtain ⟨b, hb1, hb2⟩ := Option.bind_eq_some_iff.1 h1
        exact ⟨i, b, by simp, hb1, hb2⟩
      | succ j =>
        obtain ⟨i', b, h3, h4, h5⟩ := rnBs_get (j := j) h2 (by simpa using hb)
        exact ⟨i', b, by simpa using h3, h4, h5⟩
    · cases h

noncomputable def retS (P : Program) (rs : List ResultVar) (s : S) : Option (PV × List Blk) :=
  match resOf P s.abs rs with
  | some vs =>
    let M := reach (getH s.H) 1000000 (pack vs).idT []
    let m := numR 0 M
    match rnV m (pack vs), rnBs s m M with
    | some r, some B => if (nodupB (m.map (·.1)) && nodupB (m.map (·.2)) && m.all fun e => decide (e.2.1 = 0) && decide (e.2.2 < B.length)) = true then some (r, B) else none
    | _, _ => none
  | none => none
theorem retS_ok {P : Program} {rs : List ResultVar} {s : S} {r : PV} {B : List Blk} (h : retS P rs s = some (r, B)) : RetOk P rs r B s.abs := by
  unfold retS at h
  split at h
  · rename_i vs hv
    simp only at h
    split at h
    · rename_i r' B' h1 h2
      split at h
      · rename_i hc
        cases h
        rw [Bool.and_eq_true, Bool.and_eq_true] at hc
        refine ⟨vs, fun _ => False, fun i j => (i, j) ∈ _, hv, fun i i' j a b => pair_right (nodupB_ok hc.1.2) a b, fun i j j' a b => pair_left (nodupB_ok hc.1.1) a b, fun i j a => ?_, rnV_ok h1, fun j b' hb => ?_⟩
        · have := List.all_eq_true.1 hc.2 _ a
          simpa using this
        · obtain ⟨i, b, h3, h4, h5⟩ := rnBs_get h2 hb
          refine ⟨i, b, ?_, fun h => h, h4, rnB_ok h5⟩
          have := numR_get (k := 0) h3
          simpa using this
      · cases h
    · cases h
  · cases h

noncomputable def argS : Nat → List PV → Tr PV
  | _, [] => .leaf
  | k, p :: l => (argS (k + 1) l).setF k (some p)
theorem argS_get : ∀ {l : List PV} {k : Nat}, ∀ n, (argS k l).getF n = if k ≤ n then l[n - k]? else none
  | [], k, n => by simp [argS, Tr.getF, Tr.getQ_leaf]
  | p :: l, k, n => by
    unfold argS
    rw [Tr.getF_setF, argS_get n]
    by_cases hn : n = k
    · subst hn; simp
    · rw [if_neg hn]
      by_cases hk : k ≤ n
      · rw [if_pos hk, if_pos (by omega), show n - k = (n - (k + 1)) + 1 by omega]; simp
      · rw [if_neg hk, if_neg (by omega)]
noncomputable def evFun (P : Program) (cx : Cx) (io : Io) (n : Nat) (f : FuncId) (args : List PV) : Option (PV × List Blk) :=
  match P.funcs[f]? with
  | some fn =>
    match fn.body with
    | some c =>
      if ((!(fn.name == "runtime.NumGoroutine")) && decide (args.length ≤ fn.ntmps)) = true then
        match evC P fn.ntmps cx io n c ⟨argS 0 args, .leaf, [], 1, false⟩ with
        | some (.normal, s') => retS P fn.results.toList s'
        | some (.ret, s') => retS P fn.results.toList s'
        | _ => none
      else none
    | none => none
  | none => none
theorem enter_eq {args : List PV} : (⟨argS 0 args, .leaf, [], 1, false⟩ : S).abs = St.enter args := by
  show (⟨(argS 0 args).getF, getH .leaf, fun d => memN d [], 1, fun _ => none⟩ : St) = _
  have e1 : (argS 0 args).getF = fun t => args[t]? := by funext n; rw [argS_get n]; simp
  have e2 : getH (.leaf : Tr (Tr Blk)) = fun _ => none := rfl
  rw [e1, e2]; rfl
theorem evFun_ok {P : Program} {gw : World} {gb : Nat} {cx : Cx} {io : Io} (hk : Knows P gw gb cx io) (hm : P.follows .mixedOrders = true) {n : Nat} {f : FuncId} {args : List PV} {r : PV} {B : List Blk}
    (h : evFun P cx io n f args = some (r, B)) : VCall P gw gb f args r B := by
  unfold evFun at h
  split at h
  · rename_i fn hf
    split at h
    · rename_i c hb
      split at h
      · rename_i hc
        rw [Bool.and_eq_true] at hc
        · refine vcall_ofRC true fn.results.toList hf hb (by simpa using hc.1) rfl rfl (by simpa using hc.2) fun C hP hnt hgw hgb _ _ hcu => ?_
          have hk' : Knows C.P C.gw C.gb cx io := by rw [hP, hgw, hgb]; exact hk
          have hm' : C.P.follows .mixedOrders = true := by rw [hP]; exact hm
          rw [← enter_eq]
          split at h
          · rename_i s' hs
            exact evC_ok hk' hcu hm' n c _ s' .normal _ (by rw [hP, hnt]; exact hs) (retS_ok h)
          · rename_i s' hs
            exact evC_ok hk' hcu hm' n c _ s' .ret _ (by rw [hP, hnt]; exact hs) (retS_ok h)
          · cases h
      · cases h
    · cases h
  · cases h

/-! Calls that are handed blocks -/
noncomputable def enterH : Nat → List Blk → Option (Tr (Tr Blk))
  | _, [] => some .leaf
  | k, b :: l =>
    match enterH (k + 1) l with
    | some t => setH t (0, k) (some b)
    | none => none
theorem enterH_get : ∀ {l : List Blk} {k : Nat} {t : Tr (Tr Blk)}, enterH k l = some t → ∀ i, getH t i = if i.1 = 0 ∧ k ≤ i.2 then l[i.2 - k]? else none
  | [], k, t, h, i => by
    cases h
    show (match (Tr.leaf : Tr (Tr Blk)).get i.1 with | some t => t.get i.2 | none => none) = _
    simp [Tr.get, Tr.getP_leaf]
  | b :: l, k, t, h, i => by
    unfold enterH at h
    split at h
    · rename_i t' ht
      rw [getH_setH h]
      show (if i = (0, k) then some b else getH t' i) = _
      rw [enterH_get ht i]
      by_cases hi : i = (0, k)
      · subst hi; simp
      · rw [if_neg hi]
        by_cases h0 : i.1 = 0
        · by_cases hk : k ≤ i.2
          · have hne : i.2 ≠ k := fun e => hi (Prod.ext h0 e)
            have c1 : i.1 = 0 ∧ k + 1 ≤ i.2 := ⟨h0, by omega⟩
            have c2 : i.1 = 0 ∧ k ≤ i.2 := ⟨h0, hk⟩
            rw [if_pos c1, if_pos c2, show i.2 - k = (i.2 - (k + 1)) + 1 by omega]; simp
          · have c1 : ¬ (i.1 = 0 ∧ k + 1 ≤ i.2) := fun e => hk (by omega)
            have c2 : ¬ (i.1 = 0 ∧ k ≤ i.2) := fun e => hk e.2
            rw [if_neg c1, if_neg c2]
        · have c1 : ¬ (i.1 = 0 ∧ k + 1 ≤ i.2) := fun e => h0 e.1
          have c2 : ¬ (i.1 = 0 ∧ k ≤ i.2) := fun e => h0 e.1
          rw [if_neg c1, if_neg c2]
    · cases h
/-- The blocks that come back: those that were handed in keep their names. -/
noncomputable def numIO (n : Nat) : Nat → List Id → List (Id × Id)
  | _, [] => []
  | k, i :: l => if i.1 = 0 ∧ i.2 < n then (i, i) :: numIO n k l else (i, (0, n + k)) :: numIO n (k + 1) l
noncomputable def backB (s : S) (m : List (Id × Id)) (j : Id) : Option Blk :=
  match m.find? (fun e => decide (e.2 = j)) with
  | some e => (getH s.H e.1).bind (rnB m)
  | none => none
theorem backB_ok {s : S} {m : List (Id × Id)} {j : Id} {b' : Blk} (h : backB s m j = some b') : ∃ i b, (i, j) ∈ m ∧ getH s.H i = some b ∧ rnB m b = some b' := by
  unfold backB at h
  split at h
  · rename_i e he
    have h1 := List.mem_of_find?_eq_some he
    have h2 := List.find?_some he
    obtain ⟨b, hb1, hb2⟩ := Option.bind_eq_some_iff.1 h
    have h2 : e.2 = j := by simpa using h2
    exact ⟨e.1, b, by rw [← h2]; exact h1, hb1, hb2⟩
  · cases h
noncomputable def retSIO (P : Program) (rs : List ResultVar) (n : Nat) (s : S) : Option (PV × List (Option Blk)) :=
  match resOf P s.abs rs with
  | some vs =>
    let M := reach (getH s.H) 1000000 (((List.range n).map fun k => (0, k)).filter (fun i => (getH s.H i).isSome) ++ (pack vs).idT) []
    let m := numIO n 0 M
    let B := (List.range (n + M.length)).map fun k => backB s m (0, k)
    match rnV m (pack vs) with
    | some r => if (nodupB (m.map (·.1)) && nodupB (m.map (·.2)) && m.all fun e => decide (e.2.1 = 0) && (B.getD e.2.2 none).isSome && (!decide (e.2.2 < n) || decide (e.1 = e.2))) = true then some (r, B) else none
    | none => none
  | none => none
theorem retSIO_ok {P : Program} {rs : List ResultVar} {n : Nat} {s : S} {r : PV} {B : List (Option Blk)} (h : retSIO P rs n s = some (r, B)) : RetOkIO P rs n r B s.abs ∧ n ≤ B.length := by
  unfold retSIO at h
  split at h
  · rename_i vs hv
    simp only at h
    split at h
    · rename_i r' h1
      split at h
      · rename_i hc
        cases h
        rw [Bool.and_eq_true, Bool.and_eq_true] at hc
        refine ⟨⟨vs, fun _ => False, fun i j => (i, j) ∈ _, hv, fun i i' j a b => pair_right (nodupB_ok hc.1.2) a b, fun i j j' a b => pair_left (nodupB_ok hc.1.1) a b, fun i j a => ?_, rnV_ok h1, fun j b' hb => ?_⟩, by simp⟩
        · have := List.all_eq_true.1 hc.2 _ a
          simp only [Bool.and_eq_true, decide_eq_true_eq, Bool.or_eq_true, Bool.not_eq_true', decide_eq_false_iff_not] at this
          refine ⟨this.1.1, ?_, fun hlt => this.2.resolve_left (fun hh => hh hlt)⟩
          have h2 := this.1.2
          rw [List.getD_eq_getElem?_getD] at h2
          cases hg : ((List.range (n + (reach (getH s.H) 1000000 (((List.range n).map fun k => (0, k)).filter (fun i => (getH s.H i).isSome) ++ (pack vs).idT) []).length)).map fun k => backB s (numIO n 0 (reach (getH s.H) 1000000 (((List.range n).map fun k => (0, k)).filter (fun i => (getH s.H i).isSome) ++ (pack vs).idT) [])) (0, k))[j.2]? with
          | none => rw [hg] at h2; cases h2
          | some o =>
            rw [hg] at h2
            cases o with
            | none => cases h2
            | some b => exact ⟨b, rfl⟩
        · rw [List.getElem?_map] at hb
          obtain ⟨k, hk, hb⟩ := Option.map_eq_some_iff.1 hb
          obtain ⟨hk1, hk2⟩ := List.getElem?_eq_some_iff.1 hk
          rw [List.getElem_range] at hk2
          subst hk2
          obtain ⟨i, b, h3, h4, h5⟩ := backB_ok hb
          exact ⟨i, b, h3, fun h => h, h4, rnB_ok h5⟩
      · cases h
    · cases h
  · cases h
noncomputable def evFunIO (P : Program) (cx : Cx) (io : Io) (n : Nat) (f : FuncId) (args : List PV) (Hin : List Blk) : Option (PV × List (Option Blk)) :=
  match P.funcs[f]? with
  | some fn =>
    match fn.body with
    | some c =>
      if ((!(fn.name == "runtime.NumGoroutine")) && decide (args.length ≤ fn.ntmps)) = true then
        match enterH 0 Hin with
        | some H =>
          match evC P fn.ntmps cx io n c ⟨argS 0 args, H, [], 1, false⟩ with
          | some (.normal, s') => retSIO P fn.results.toList Hin.length s'
          | some (.ret, s') => retSIO P fn.results.toList Hin.length s'
          | _ => none
        | none => none
      else none
    | none => none
  | none => none
theorem enterIO_eq {args : List PV} {Hin : List Blk} {H : Tr (Tr Blk)} (hH : enterH 0 Hin = some H) : (⟨argS 0 args, H, [], 1, false⟩ : S).abs = St.enterIO args Hin := by
  show (⟨(argS 0 args).getF, getH H, fun d => memN d [], 1, fun _ => none⟩ : St) = _
  have e1 : (argS 0 args).getF = fun t => args[t]? := by funext n; rw [argS_get n]; simp
  have e2 : getH H = fun i => if i.1 = 0 then Hin[i.2]? else none := by funext i; rw [enterH_get hH i]; simp
  rw [e1, e2]; rfl
theorem evFunIO_ok {P : Program} {gw : World} {gb : Nat} {cx : Cx} {io : Io} (hk : Knows P gw gb cx io) (hm : P.follows .mixedOrders = true) {n : Nat} {f : FuncId} {args : List PV} {Hin : List Blk} {r : PV} {B : List (Option Blk)}
    (h : evFunIO P cx io n f args Hin = some (r, B)) : VCallIO P gw gb f args Hin r B := by
  unfold evFunIO at h
  split at h
  · rename_i fn hf
    split at h
    · rename_i c hb
      split at h
      · rename_i hc
        rw [Bool.and_eq_true] at hc
        split at h
        · rename_i H hH
          have hlen : Hin.length ≤ B.length := by
            split at h
            · exact (retSIO_ok h).2
            · exact (retSIO_ok h).2
            · cases h
          refine vcallIO_ofC true fn.results.toList hf hb (by simpa using hc.1) rfl rfl (by simpa using hc.2) hlen fun C hP hnt hgw hgb hcu => ?_
          have hk' : Knows C.P C.gw C.gb cx io := by rw [hP, hgw, hgb]; exact hk
          have hm' : C.P.follows .mixedOrders = true := by rw [hP]; exact hm
          rw [← enterIO_eq hH]
          split at h
          · rename_i s' hs
            exact evC_ok hk' hcu hm' n c _ s' .normal _ (by rw [hP, hnt]; exact hs) (retSIO_ok h).1
          · rename_i s' hs
            exact evC_ok hk' hcu hm' n c _ s' .ret _ (by rw [hP, hnt]; exact hs) (retSIO_ok h).1
          · cases h
        · cases h
      · cases h
    · cases h
  · cases h

/-! All calls, by their depth -/
noncomputable def evAll (P : Program) (tab : Cx) (tio : Io) (n : Nat) : Nat → Cx × Io
  | 0 => (tab, tio)
  | k + 1 =>
    (fun f args => match tab f args with | some x => some x | none => evFun P (evAll P tab tio n k).1 (evAll P tab tio n k).2 n f args,
     ⟨fun f args Hin => match tio.run f args Hin with | some x => some x | none => evFunIO P (evAll P tab tio n k).1 (evAll P tab tio n k).2 n f args Hin, tio.md⟩)
theorem evAll_ok {P : Program} {gw : World} {gb : Nat} {tab : Cx} {tio : Io} (hk : Knows P gw gb tab tio) (hm : P.follows .mixedOrders = true) (n : Nat) : ∀ k, Knows P gw gb (evAll P tab tio n k).1 (evAll P tab tio n k).2
  | 0 => hk
  | k + 1 => by
    have ih := evAll_ok hk hm n k
    refine ⟨fun f args r B h => ?_, fun f args Hin r B h => ?_⟩
    · unfold evAll at h
      simp only at h
      split at h
      · rename_i x hx
        cases h
        exact hk.cx _ _ _ _ hx
      · exact evFun_ok ih hm h
    · unfold evAll at h
      simp only at h
      split at h
      · rename_i x hx
        cases h
        exact hk.io _ _ _ _ _ hx
      · exact evFunIO_ok ih hm h
end Go.Vm
end

section
namespace Go.Vm
open Go Go.RowKit Go.Shelf Go.Lib
set_option linter.unusedVariables false

/-! ### slices.Clone, over any type -/
noncomputable def cloneFn (nm : String) (tg : Array TypeId) (t tb : TypeId) : Func :=
{ name := nm, origin := "slices.Clone", targs := tg,
  params := #[t], resultTypes := #[t], nfree := 0, ntmps := 8, results := #[ResultVar.tmp 2],
  body :=
    some
      (Code.seq
        (Code.region 0
          #[{ dst := some 2, op := Op.assign (Operand.const (Value.slice none 0 0)), type := t,
              pos := "slices.go:355", after := #[], guard := none }]
          false)
        (Code.seq
          (Code.seq
            (Code.region 1
              #[{ dst := some 3, op := Op.move (Operand.tmp 0), type := t, pos := "slices.go:357", after := #[],
                  guard := none },
                { dst := some 4,
                  op := Op.binOp BinOp.eql t (Operand.tmp 3) (Operand.const (Value.slice none 0 0)) t,
                  type := tb, pos := "slices.go:357", after := #[{ on := 0, ground := Ground.data }], guard := none }]
              false)
            (Code.cond (Operand.tmp 4)
              (Code.seq
                (Code.region 2
                  #[{ dst := some 2, op := Op.assign (Operand.const (Value.slice none 0 0)), type := t,
                      pos := "slices.go:358", after := #[], guard := none }]
                  false)
                Code.ret)
              Code.skip))
          (Code.seq
            (Code.region 3
              #[{ dst := some 5, op := Op.buildSlice t 0 #[], type := t, pos := "slices.go:362", after := #[],
                  guard := none },
                { dst := some 6, op := Op.move (Operand.tmp 0), type := t, pos := "slices.go:362", after := #[],
                  guard := none },
                { dst := some 7,
                  op :=
                    Op.call
                      { callee := Callee.builtin Builtin.append, args := #[Operand.tmp 5, Operand.tmp 6],
                        argTypes := #[t, t] },
                  type := t, pos := "slices.go:362",
                  after := #[{ on := 0, ground := Ground.data }, { on := 1, ground := Ground.data }],
                  guard := none },
                { dst := some 2, op := Op.assign (Operand.tmp 7), type := t, pos := "slices.go:362",
                  after :=
                    #[{ on := 2, ground := Ground.data }, { on := 2, ground := Ground.chain },
                      { on := 0, ground := Ground.phase }, { on := 1, ground := Ground.phase },
                      { on := 2, ground := Ground.phase }],
                  guard := none }]
              false)
            Code.ret))),
  norace := false, file := "slices/slices.go", endLine := 363, tmpNames := #["s", "s", "", "", "", "", "", ""] }

section
variable {P : Program} {f : FuncId} {nm : String} {tg : Array TypeId} {t tb e : TypeId} {i0 : TypeInfo} {zv : Value} {z by_ : Nat}
set_option maxHeartbeats 4000000 in
set_option maxRecDepth 100000 in
theorem clone_some (hf : P.funcs[f]? = some (cloneFn nm tg t tb)) (mixed : P.follows .mixedOrders = true) (ht : P.underlying t = some (.slice e)) (hi : P.info? e = some i0) (hz0 : i0.zero = some zv) (hz1 : i0.size = z) (hz2 : i0.bytes = by_) (hzs : zv.cells.size = z) (hzp : 0 < z)
    (ad : Addr) (n c : Nat) (news : List Value) (w : World) (hl : news.length = n * z) (hn : ∀ j u, news[j]? = some u → w.cell? (ad.add j) = some u) (h1 : ∀ u ∈ news, u.oneCell' = true) (hm : n ≤ maxLen) (hby : n * by_ ≤ 140737488355328) :
    Calls P f #[.slice (some ad) n c] w fun e' w' => ∃ v', e' = .returned v' ∧ w'.ownsRow w.heap.size e z v' n news ∧ Below w.heap.size w w' := by
  have q : ∀ (w : World) (a : Option Addr) (n c n' c' : Nat), (binOp .eql t (.slice a n c) (.slice none n' c')).run P w = .ok (.bool a.isNone) w := fun w a n c n' c' => Lib.run_eql_slice_nil w _ _ a n c n' c' ht
  have u : ∀ w, Sem.run P (underlying t) w = .ok (TypeDesc.slice e) w := run_underlying ht
  have s : ∀ w, Sem.run P (Go.sizeOf e) w = .ok z w := fun w => by simp [Go.sizeOf, typeInfo, hi, hz1]
  have A : Aside (∀ j u, news[j]? = some u → w.cell? (ad.add j) = some u) := hn
  clear hn
  have hnt : (cloneFn nm tg t tb).ntmps = 8 := rfl
  go_enter hf, hnt
  go_wp2_with (at_builtin; refine wpList_append_own _ rfl _ _ t rfl w.heap.size e i0 zv z by_ ht hi hz0 hz1 hz2 hzs hzp _ _ _ rfl (World.ownsRow_made w #[] 0 (Nat.le_refl _) (Nat.zero_le _) (by simp)) ad n c news rfl hl ?qc2 h1 (by simpa using hm) (by simpa using hby) (by simp) ?_)
  case qc2 =>
    intro j u hj
    refine Lib.cell?_alloc_some _ ?_
    exact A.out j u hj
  intro v' w1 hown hgrow hnil
  go_wp2
  go_ret
  refine ⟨v', rfl, by simpa using hown, ?_⟩
  exact ((Below.refl _ w).alloc (Nat.le_refl _) _).grown hgrow (by simp) (by intro k hk; simp [Value.ownBlock] at hk; omega)
set_option maxHeartbeats 4000000 in
set_option maxRecDepth 100000 in
theorem clone_zero (hf : P.funcs[f]? = some (cloneFn nm tg t tb)) (mixed : P.follows .mixedOrders = true) (ht : P.underlying t = some (.slice e)) (hi : P.info? e = some i0) (hz0 : i0.zero = some zv) (hz1 : i0.size = z) (hz2 : i0.bytes = by_) (hzs : zv.cells.size = z) (hzp : 0 < z)
    (ad : Addr) (c : Nat) (w : World) :
    Calls P f #[.slice (some ad) 0 c] w fun e' w' => ∃ v', e' = .returned v' ∧ w'.ownsRow w.heap.size e z v' 0 [] ∧ Below w.heap.size w w' :=
  clone_some hf mixed ht hi hz0 hz1 hz2 hzs hzp ad 0 c [] w (by simp) (by simp) (by simp) (Nat.zero_le _) (by simp)
set_option maxHeartbeats 4000000 in
set_option maxRecDepth 100000 in
theorem clone_nil (hf : P.funcs[f]? = some (cloneFn nm tg t tb)) (mixed : P.follows .mixedOrders = true) (ht : P.underlying t = some (.slice e)) (n c : Nat) (w : World) :
    Calls P f #[.slice none n c] w fun e' w' => e' = .returned (.slice none 0 0) ∧ w' = w := by
  have q : ∀ (w : World) (a : Option Addr) (n c n' c' : Nat), (binOp .eql t (.slice a n c) (.slice none n' c')).run P w = .ok (.bool a.isNone) w := fun w a n c n' c' => Lib.run_eql_slice_nil w _ _ a n c n' c' ht
  have hnt : (cloneFn nm tg t tb).ntmps = 8 := rfl
  go_enter hf, hnt
  go_wp2
  go_ret
  exact ⟨rfl, rfl⟩

/-- slices.Clone: a new row of the same elements. -/
theorem clone_call {gw : World} {gb : Nat} {n : Nat} {xs : List PC} {b : Bool} (hf : P.funcs[f]? = some (cloneFn nm tg t tb)) (hname : (nm == "runtime.NumGoroutine") = false) (mixed : P.follows .mixedOrders = true) (he : elemT P t = some e) (hs : szT P e = some z) (hby : bytesT P e = some by_) (hzv : zeroT P e = some zv) (hzs : zv.cells.size = z) (hzp : 0 < z)
    (hl : xs.length = n * z) (hm : n ≤ maxLen) (hlim : n * by_ ≤ 140737488355328) (hfr : PC.frees xs = true) :
    VCall P gw gb f [.one (.sl b n xs)] (.one (.own (0, 0))) [.arr e z n xs] := by
  have ht := elemT_spec he
  obtain ⟨i0, hi, hz1⟩ := Option.map_eq_some_iff.1 (show (P.info? e).map (·.size) = some z from hs)
  have hz2 : i0.bytes = by_ := by
    have : (P.info? e).map (·.bytes) = some by_ := hby
    rw [hi] at this; simpa using this
  have hz0 : i0.zero = some zv := by
    have : (P.info? e).bind (·.zero) = some zv := hzv
    rw [hi] at this; simpa using this
  refine ⟨⟨_, hf, hname, rfl⟩, fun w args F hgb hgl hlt hr => ?_⟩
  simp only [repVs, repV, rep] at hr
  obtain ⟨x, xs', hx, ⟨A, cap, rfl, hc, hrow⟩, rfl⟩ := hr
  obtain rfl : args = #[.slice A n cap] := by cases args; simp_all
  have fin : ∀ (v' : Value) (w' : World) (vs : List Value), w'.ownsRow w.heap.size e z v' n vs → Below w.heap.size w w' → reps (fun _ => none) w (Fs F fun _ => False) xs vs →
      ∃ (x : Value) (ψ : Id → Option Value) (X : Nat → Prop), Ending.returned v' = .returned x ∧ Below w.heap.size w w' ∧ (∀ g, X g → w.heap.size ≤ g ∧ g < w'.heap.size) ∧
      repV ψ w' (Fs (fun g => F g ∨ X g) X) (.one (.own (0, 0))) x ∧ (∀ (j : Nat) b, [Blk.arr e z n xs][j]? = some b → holds ψ w' (Fs (fun g => F g ∨ X g) X) (0, j) b) ∧ (∀ i, ψ i ≠ none → i.1 = 0) ∧
      (∀ j u g, ψ (0, j) = some u → blkOf u = some g → w.heap.size ≤ g ∧ ¬ X g) ∧
      (∀ j k u v g, ψ (0, j) = some u → ψ (0, k) = some v → blkOf u = some g → blkOf v = some g → j = k) := by
    intro v' w' vs ho hb hrs
    have hsl : isSl v' = true := by
      rcases ho.2 with ⟨rfl, _⟩ | ⟨g, cap, cur, rfl, _⟩ <;> rfl
    have hge : ∀ g, blkOf v' = some g → w.heap.size ≤ g := by
      intro g hg
      rcases ho.2 with ⟨rfl, _⟩ | ⟨g', cap, cur, rfl, hle, _⟩
      · cases hg
      · simp only [blkOf, Option.some.injEq] at hg; omega
    have ho0 : w'.ownsRow 0 e z v' n vs := ⟨ho.1, ho.2.imp id fun ⟨g, cap, cur, h1, h2, h3⟩ => ⟨g, cap, cur, h1, Nat.zero_le _, h3⟩⟩
    refine ⟨v', upd (fun _ => none) (0, 0) (some v'), fun _ => False, rfl, hb, fun g hg => hg.elim, ?_, fun j b hj => ?_, fun i hi => ?_, fun j u g hu hg => ?_, fun j k u v g hu hv _ _ => ?_⟩
    · simp only [repV, rep]
      exact ⟨upd_self _ _ _, hsl⟩
    · cases j with
      | succ j => simp at hj
      | zero =>
        simp only [List.getElem?_cons_zero, Option.some.injEq] at hj
        subst hj
        refine ⟨v', vs, upd_self _ _ _, ho0, ?_⟩
        refine free_reps (φ := fun _ => none) (fun t g hg => hg) _ _ hfr ?_
        refine reps_mono (fun _ _ h => by cases h) (fun t g hg => ?_) (fun t g hg => ?_) _ _ hrs
        · refine hb.block g ?_
          cases t
          · exact hlt g hg
          · exact hg.elim
        · cases t
          · exact .inl hg
          · exact hg.elim
    · by_cases h : i = (0, 0)
      · rw [h]
      · rw [upd_ne _ _ h] at hi; exact absurd rfl hi
    · by_cases h : j = 0
      · subst h
        rw [upd_self] at hu
        cases hu
        exact ⟨hge g hg, fun h => h⟩
      · rw [upd_ne _ _ (by simp [h])] at hu; cases hu
    · by_cases h : j = 0
      · by_cases h' : k = 0
        · rw [h, h']
        · rw [upd_ne _ _ (by simp [h'])] at hv; cases hv
      · rw [upd_ne _ _ (by simp [h])] at hu; cases hu
  cases A with
  | none =>
    have hn0 : n = 0 ∧ xs = [] := by
      rcases hrow with h | ⟨ad, h, _⟩
      · exact h
      · cases h
    obtain ⟨rfl, rfl⟩ := hn0
    refine (clone_nil hf mixed ht 0 cap w).mono fun e' w' he' => ?_
    obtain ⟨rfl, rfl⟩ := he'
    exact fin _ _ [] ⟨by simp, .inl ⟨rfl, rfl⟩⟩ (Below.refl _ _) (by simp only [reps])
  | some ad =>
    rcases hrow with ⟨rfl, rfl⟩ | ⟨ad', h, hF, hat⟩
    · refine (clone_zero hf mixed ht hi hz0 hz1 hz2 hzs hzp ad cap w).mono fun e' w' he' => ?_
      obtain ⟨v', rfl, ho, hb⟩ := he'
      exact fin _ _ [] ho hb (by simp only [reps])
    · cases h
      obtain ⟨vs, hvs, hcl⟩ := repAt_vals _ _ hat
      refine (clone_some hf mixed ht hi hz0 hz1 hz2 hzs hzp ad n cap vs w (by rw [reps_length _ _ hvs, hl]) hcl (reps_one _ _ hvs) hm hlim).mono fun e' w' he' => ?_
      obtain ⟨v', rfl, ho, hb⟩ := he'
      exact fin _ _ vs ho hb hvs
end
end Go.Vm
end

section
namespace Go.Vm
open Go Go.RowKit
set_option linter.unusedVariables false

/-! ### Tables of contracts for the evaluator -/
noncomputable def TabOk (P : Program) (gw : World) (gb : Nat) (cx : Cx) : Prop := ∀ f args r B, cx f args = some (r, B) → VCall P gw gb f args r B
noncomputable def orTab (a b : Cx) : Cx := fun f args => match a f args with | some x => some x | none => b f args
theorem orTab_ok {P : Program} {gw : World} {gb : Nat} {a b : Cx} (ha : TabOk P gw gb a) (hb : TabOk P gw gb b) : TabOk P gw gb (orTab a b) := by
  intro f args r B h
  unfold orTab at h
  split at h
  · rename_i x hx; cases h; exact ha _ _ _ _ hx
  · exact hb _ _ _ _ h
structure CloneE where
  f : FuncId
  e : TypeId
  z : Nat
  bytes : Nat
noncomputable def CloneOk (P : Program) (x : CloneE) : Prop :=
  ∃ nm tg t tb, P.funcs[x.f]? = some (cloneFn nm tg t tb) ∧ (nm == "runtime.NumGoroutine") = false ∧ elemT P t = some x.e ∧ szT P x.e = some x.z ∧ bytesT P x.e = some x.bytes ∧ (zeroT P x.e).map (fun v => v.cells.size) = some x.z ∧ 0 < x.z
noncomputable def cloneTab : List CloneE → Cx
  | [], _, _ => none
  | x :: L, f, args =>
    if x.f = f then
      match args with
      | [.one (.sl b n xs)] => if (xs.length == n * x.z && decide (n ≤ 140737488355328) && decide (n * x.bytes ≤ 140737488355328) && PC.frees xs) = true then some (.one (.own (0, 0)), [.arr x.e x.z n xs]) else none
      | _ => none
    else cloneTab L f args
theorem cloneTab_ok {P : Program} {gw : World} {gb : Nat} (mixed : P.follows .mixedOrders = true) : ∀ {L : List CloneE}, (∀ x ∈ L, CloneOk P x) → TabOk P gw gb (cloneTab L)
  | [], _ => fun f args r B h => by cases h
  | x :: L, hL => fun f args r B h => by
    unfold cloneTab at h
    split at h
    · rename_i hf
      split at h
      · rename_i b n xs
        split at h
        · rename_i hc
          cases h
          simp only [Bool.and_eq_true, beq_iff_eq, decide_eq_true_eq] at hc
          obtain ⟨nm, tg, t, tb, h1, h2, h3, h4, h5, h6, h8⟩ := hL x (by simp)
          obtain ⟨zv, h6, h7⟩ := Option.map_eq_some_iff.1 h6
          subst hf
          exact clone_call h1 h2 mixed h3 h4 h5 h6 h7 h8 hc.1.1.1 (by unfold maxLen; omega) hc.1.2 hc.2
        · cases h
      · cases h
    · exact cloneTab_ok mixed (fun y hy => hL y (by simp [hy])) _ _ _ _ h
end Go.Vm
end

section
namespace Go.Vm
open Go Go.RowKit
set_option linter.unusedSimpArgs false
set_option linter.unusedVariables false

/-! Calls that are told beforehand: a table of them -/
noncomputable def eqNs : List Nat → List Nat → Bool
  | [], [] => true
  | a :: l, b :: m => Nat.beq a b && eqNs l m
  | _, _ => false
theorem eqNs_ok : ∀ {l m : List Nat}, eqNs l m = true → l = m
  | [], [], _ => rfl
  | a :: l, b :: m, h => by
    simp only [eqNs, Bool.and_eq_true] at h
    rw [Nat.eq_of_beq_eq_true h.1, eqNs_ok h.2]
  | [], _ :: _, h => by simp [eqNs] at h
  | _ :: _, [], h => by simp [eqNs] at h
noncomputable def natsOf (b : ByteArray) : List Nat := b.data.toList.map (·.toNat)
theorem natsOf_inj {a b : ByteArray} (h : natsOf a = natsOf b) : a = b := by
  have h1 : a.data.toList = b.data.toList := by
    unfold natsOf at h
    exact List.map_inj_right (fun x y e => UInt8.toNat_inj.1 e) |>.1 h
  cases a; cases b
  simp only [ByteArray.mk.injEq]
  exact Array.toList_inj.1 h1
noncomputable def eqI : Int → Int → Bool
  | .ofNat a, .ofNat b => Nat.beq a b
  | .negSucc a, .negSucc b => Nat.beq a b
  | _, _ => false
theorem eqI_ok : ∀ {a b : Int}, eqI a b = true → a = b
  | .ofNat a, .ofNat b, h => by rw [Nat.eq_of_beq_eq_true h]
  | .negSucc a, .negSucc b, h => by rw [Nat.eq_of_beq_eq_true h]
  | .ofNat a, .negSucc b, h => by simp [eqI] at h
  | .negSucc a, .ofNat b, h => by simp [eqI] at h
noncomputable def eqVal : Value → Value → Bool
  | .int k a, .int k' b => decide (k = k') && eqI a b
  | .bool a, .bool b => a == b
  | .string a, .string b => eqNs (natsOf a) (natsOf b)
  | .nilIface, .nilIface => true
  | .slice none 0 0, .slice none 0 0 => true
  | .pointer none, .pointer none => true
  | .map none, .map none => true
  | _, _ => false
theorem eqVal_ok {u v : Value} (h : eqVal u v = true) : u = v := by
  unfold eqVal at h
  split at h
  · rw [Bool.and_eq_true] at h; rw [of_decide_eq_true h.1, eqI_ok h.2]
  · rw [eq_of_beq h]
  · rw [natsOf_inj (eqNs_ok h)]
  · rfl
  · rfl
  · rfl
  · rfl
  · cases h
noncomputable def eqId (i j : Id) : Bool := Nat.beq i.1 j.1 && Nat.beq i.2 j.2
theorem eqId_ok {i j : Id} (h : eqId i j = true) : i = j := by
  rw [eqId, Bool.and_eq_true] at h
  exact Prod.ext (Nat.eq_of_beq_eq_true h.1) (Nat.eq_of_beq_eq_true h.2)
noncomputable def eqVs : List Value → List Value → Bool
  | [], [] => true
  | a :: l, b :: m => eqVal a b && eqVs l m
  | _, _ => false
theorem eqVs_ok : ∀ {l m : List Value}, eqVs l m = true → l = m
  | [], [], _ => rfl
  | a :: l, b :: m, h => by
    simp only [eqVs, Bool.and_eq_true] at h
    rw [eqVal_ok h.1, eqVs_ok h.2]
  | [], _ :: _, h => by simp [eqVs] at h
  | _ :: _, [], h => by simp [eqVs] at h
mutual
noncomputable def eqPC : PC → PC → Bool
  | .c u, q => match q with | .c v => eqVal u v | _ => false
  | .ifc, q => match q with | .ifc => true | _ => false
  | .emp, q => match q with | .emp => true | _ => false
  | .sl t n xs, q => match q with | .sl t' m ys => (t == t') && Nat.beq n m && eqPCs xs ys | _ => false
  | .at t xs, q => match q with | .at t' ys => (t == t') && eqPCs xs ys | _ => false
  | .loc i o, q => match q with | .loc j o' => eqId i j && Nat.beq o o' | _ => false
  | .vw i o n, q => match q with | .vw j o' m => eqId i j && Nat.beq o o' && Nat.beq n m | _ => false
  | .cut i n, q => match q with | .cut j m => eqId i j && Nat.beq n m | _ => false
  | .rmp t ks ps, q => match q with | .rmp t' ks' qs => (t == t') && eqVs ks ks' && eqPCs ps qs | _ => false
  | .own i, q => match q with | .own j => eqId i j | _ => false
  | .fn f ps, q => match q with | .fn g qs => Nat.beq f g && eqPCs ps qs | _ => false
  | .mth f ps, q => match q with | .mth g qs => Nat.beq f g && eqPCs ps qs | _ => false
noncomputable def eqPCs : List PC → List PC → Bool
  | [], m => match m with | [] => true | _ => false
  | a :: l, m => match m with | b :: m => eqPC a b && eqPCs l m | _ => false
end
mutual
theorem eqPC_ok : ∀ {p q : PC}, eqPC p q = true → p = q
  | .c u, q, h => by
    cases q <;> simp only [eqPC] at h <;> first | (rw [eqVal_ok h]) | cases h
  | .ifc, q, h => by cases q <;> simp only [eqPC] at h <;> first | rfl | cases h
  | .emp, q, h => by cases q <;> simp only [eqPC] at h <;> first | rfl | cases h
  | .sl t n xs, q, h => by
    cases q <;> simp only [eqPC, Bool.and_eq_true, beq_iff_eq] at h <;> first | (obtain ⟨⟨rfl, h2⟩, h3⟩ := h; rw [Nat.eq_of_beq_eq_true h2, eqPCs_ok h3]) | cases h
  | .at t xs, q, h => by
    cases q <;> simp only [eqPC, Bool.and_eq_true, beq_iff_eq] at h <;> first | (obtain ⟨rfl, h3⟩ := h; rw [eqPCs_ok h3]) | cases h
  | .loc i o, q, h => by
    cases q <;> simp only [eqPC, Bool.and_eq_true, beq_iff_eq] at h <;> first | (obtain ⟨h2, h3⟩ := h; rw [eqId_ok h2, Nat.eq_of_beq_eq_true h3]) | cases h
  | .vw i o n, q, h => by
    cases q <;> simp only [eqPC, Bool.and_eq_true, beq_iff_eq] at h <;> first | (obtain ⟨⟨h1, h2⟩, h3⟩ := h; rw [eqId_ok h1, Nat.eq_of_beq_eq_true h2, Nat.eq_of_beq_eq_true h3]) | cases h
  | .cut i n, q, h => by
    cases q <;> simp only [eqPC, Bool.and_eq_true, beq_iff_eq] at h <;> first | (obtain ⟨h2, h3⟩ := h; rw [eqId_ok h2, Nat.eq_of_beq_eq_true h3]) | cases h
  | .rmp t ks ps, q, h => by
    cases q <;> simp only [eqPC, Bool.and_eq_true, beq_iff_eq] at h <;> first | (obtain ⟨⟨rfl, h2⟩, h3⟩ := h; rw [eqVs_ok h2, eqPCs_ok h3]) | cases h
  | .own i, q, h => by
    cases q <;> simp only [eqPC] at h <;> first | (rw [eqId_ok h]) | cases h
  | .fn f ps, q, h => by
    cases q <;> simp only [eqPC, Bool.and_eq_true, beq_iff_eq] at h <;> first | (obtain ⟨h2, h3⟩ := h; rw [show f = _ from Nat.eq_of_beq_eq_true h2, eqPCs_ok h3]) | cases h
  | .mth f ps, q, h => by
    cases q <;> simp only [eqPC, Bool.and_eq_true, beq_iff_eq] at h <;> first | (obtain ⟨h2, h3⟩ := h; rw [show f = _ from Nat.eq_of_beq_eq_true h2, eqPCs_ok h3]) | cases h
theorem eqPCs_ok : ∀ {l m : List PC}, eqPCs l m = true → l = m
  | [], m, h => by cases m <;> simp only [eqPCs] at h <;> first | rfl | cases h
  | a :: l, m, h => by
    cases m <;> simp only [eqPCs, Bool.and_eq_true] at h <;> first | (rw [eqPC_ok h.1, eqPCs_ok h.2]) | cases h
end
mutual
noncomputable def eqPV : PV → PV → Bool
  | .one p, y => match y with | .one q => eqPC p q | _ => false
  | .agg ps, y => match y with | .agg qs => eqPCs ps qs | _ => false
  | .tup vs, y => match y with | .tup us => eqPVs vs us | _ => false
  | .may b p, y => match y with | .may b' q => (b == b') && eqPV p q | _ => false
noncomputable def eqPVs : List PV → List PV → Bool
  | [], m => match m with | [] => true | _ => false
  | a :: l, m => match m with | b :: m => eqPV a b && eqPVs l m | _ => false
end
mutual
theorem eqPV_ok : ∀ {p q : PV}, eqPV p q = true → p = q
  | .one u, q, h => by cases q <;> simp only [eqPV] at h <;> first | (rw [eqPC_ok h]) | cases h
  | .agg u, q, h => by cases q <;> simp only [eqPV] at h <;> first | (rw [eqPCs_ok h]) | cases h
  | .tup u, q, h => by cases q <;> simp only [eqPV] at h <;> first | (rw [eqPVs_ok h]) | cases h
  | .may b p, q, h => by
    cases q <;> simp only [eqPV, Bool.and_eq_true, beq_iff_eq] at h <;> first | (obtain ⟨rfl, h3⟩ := h; rw [eqPV_ok h3]) | cases h
theorem eqPVs_ok : ∀ {l m : List PV}, eqPVs l m = true → l = m
  | [], m, h => by cases m <;> simp only [eqPVs] at h <;> first | rfl | cases h
  | a :: l, m, h => by
    cases m <;> simp only [eqPVs, Bool.and_eq_true] at h <;> first | (rw [eqPV_ok h.1, eqPVs_ok h.2]) | cases h
end
noncomputable def eqEs : List (Value × PC) → List (Value × PC) → Bool
  | [], [] => true
  | a :: l, b :: m => eqVal a.1 b.1 && eqPC a.2 b.2 && eqEs l m
  | _, _ => false
theorem eqEs_ok : ∀ {l m : List (Value × PC)}, eqEs l m = true → l = m
  | [], [], _ => rfl
  | a :: l, b :: m, h => by
    simp only [eqEs, Bool.and_eq_true] at h
    rw [Prod.ext (eqVal_ok h.1.1) (eqPC_ok h.1.2), eqEs_ok h.2]
  | [], _ :: _, h => by simp [eqEs] at h
  | _ :: _, [], h => by simp [eqEs] at h
noncomputable def eqBlk : Blk → Blk → Bool
  | .box t cs, y => match y with | .box t' cs' => Nat.beq t t' && eqPCs cs cs' | _ => false
  | .arr t z n cs, y => match y with | .arr t' z' n' cs' => Nat.beq t t' && Nat.beq z z' && Nat.beq n n' && eqPCs cs cs' | _ => false
  | .mp t es, y => match y with | .mp t' es' => Nat.beq t t' && eqEs es es' | _ => false
theorem eqBlk_ok {a b : Blk} (h : eqBlk a b = true) : a = b := by
  cases a with
  | box t cs =>
    cases b <;> simp only [eqBlk, Bool.and_eq_true] at h <;> first | (rw [show t = _ from Nat.eq_of_beq_eq_true h.1, eqPCs_ok h.2]) | cases h
  | arr t z n cs =>
    cases b <;> simp only [eqBlk, Bool.and_eq_true] at h <;> first | (rw [show t = _ from Nat.eq_of_beq_eq_true h.1.1.1, Nat.eq_of_beq_eq_true h.1.1.2, Nat.eq_of_beq_eq_true h.1.2, eqPCs_ok h.2]) | cases h
  | mp t es =>
    cases b <;> simp only [eqBlk, Bool.and_eq_true] at h <;> first | (rw [show t = _ from Nat.eq_of_beq_eq_true h.1, eqEs_ok h.2]) | cases h
noncomputable def eqBlks : List Blk → List Blk → Bool
  | [], [] => true
  | a :: l, b :: m => eqBlk a b && eqBlks l m
  | _, _ => false
theorem eqBlks_ok : ∀ {l m : List Blk}, eqBlks l m = true → l = m
  | [], [], _ => rfl
  | a :: l, b :: m, h => by
    simp only [eqBlks, Bool.and_eq_true] at h
    rw [eqBlk_ok h.1, eqBlks_ok h.2]
  | [], _ :: _, h => by simp [eqBlks] at h
  | _ :: _, [], h => by simp [eqBlks] at h

/-- A call, and what it gives. -/
structure Ent where
  f : FuncId
  args : List PV
  r : PV
  B : List Blk
noncomputable def lookE : List Ent → Cx
  | [], _, _ => none
  | e :: l, f, args => if (Nat.beq f e.f && eqPVs args e.args) = true then some (e.r, e.B) else lookE l f args
noncomputable def EntOk (P : Program) (gw : World) (gb : Nat) (e : Ent) : Prop := VCall P gw gb e.f e.args e.r e.B
theorem lookE_ok {P : Program} {gw : World} {gb : Nat} : ∀ {l : List Ent}, (∀ e ∈ l, EntOk P gw gb e) → TabOk P gw gb (lookE l)
  | [], _, f, args, r, B, h => by cases h
  | e :: l, ha, f, args, r, B, h => by
    unfold lookE at h
    split at h
    · rename_i hc
      rw [Bool.and_eq_true] at hc
      cases h
      rw [show f = e.f from Nat.eq_of_beq_eq_true hc.1, eqPVs_ok hc.2]
      exact ha e (by simp)
    · exact lookE_ok (fun e' he => ha e' (by simp [he])) f args r B h
noncomputable def isRes (r : PV) (B : List Blk) : Option (PV × List Blk) → Bool
  | some (r', B') => eqPV r' r && eqBlks B' B
  | none => false
theorem isRes_ok {r : PV} {B : List Blk} {x : Option (PV × List Blk)} (h : isRes r B x = true) : x = some (r, B) := by
  unfold isRes at h
  split at h
  · rw [Bool.and_eq_true] at h
    rw [eqPV_ok h.1, eqBlks_ok h.2]
  · cases h
/-- One more entry. -/
theorem ent_ok {P : Program} {gw : World} {gb : Nat} {tab : Cx} {tio : Io} (hk : Knows P gw gb tab tio) (hm : P.follows .mixedOrders = true) (n k : Nat) (e : Ent)
    (h : isRes e.r e.B (evFun P (evAll P tab tio n k).1 (evAll P tab tio n k).2 n e.f e.args) = true) : EntOk P gw gb e :=
  evFun_ok (evAll_ok hk hm n k) hm (isRes_ok h)
end Go.Vm
end

section
namespace Go.Vm
open Go Go.RowKit Go.Proofs
set_option maxRecDepth 100000
set_option linter.unusedSimpArgs false
set_option linter.unusedVariables false

noncomputable def clones : List CloneE := [⟨26, 68, 2, 16⟩, ⟨27, 71, 2, 16⟩, ⟨28, 3, 1, 8⟩, ⟨178, 24, 1, 24⟩]
theorem clones_ok : ∀ x ∈ clones, CloneOk Tryz.prog x := by
  intro x hx
  simp only [clones, List.mem_cons, List.not_mem_nil, or_false] at hx
  rcases hx with rfl | rfl | rfl | rfl
  · exact ⟨_, _, _, _, Tryz.func26, by decide, by kernel_rfl, by kernel_rfl, by kernel_rfl, by kernel_rfl, by decide⟩
  · exact ⟨_, _, _, _, Tryz.func27, by decide, by kernel_rfl, by kernel_rfl, by kernel_rfl, by kernel_rfl, by decide⟩
  · exact ⟨_, _, _, _, Tryz.func28, by decide, by kernel_rfl, by kernel_rfl, by kernel_rfl, by kernel_rfl, by decide⟩
  · exact ⟨_, _, _, _, Tryz.func178, by decide, by kernel_rfl, by kernel_rfl, by kernel_rfl, by kernel_rfl, by decide⟩
noncomputable def seatTab : Cx := cloneTab clones
theorem mixed : Tryz.prog.follows .mixedOrders = true := by kernel_rfl
theorem seatTab_ok (gw : World) : TabOk Tryz.prog gw gw.heap.size seatTab := cloneTab_ok mixed clones_ok
/-- md: what is handed to which function (see the evaluator). -/
noncomputable def seatIo (l l3 : List FuncId) : Io := ⟨fun _ _ _ => none, fun f => if l.contains f then 1 else if l3.contains f then 3 else 0⟩
end Go.Vm
end
