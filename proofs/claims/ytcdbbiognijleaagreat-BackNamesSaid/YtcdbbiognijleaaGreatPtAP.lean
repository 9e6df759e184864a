/-
  Contracts of the library, and a run that is computed (PtAP). Conditions: each theorem's own premises. By an AI agent.
-/
import Derived.Test.YtcdbbiognijleaaGreatVmAO
import Derived.Test.YtcdbbiognijleaaGreatProg
import Derived.Test.YtcdbbiognijleaaGreatVmAJ
section
namespace Go.Vm
open Go Go.RowKit
set_option linter.unusedSimpArgs false
set_option linter.unusedVariables false

/-! Calls that are told beforehand: a table of them -/
noncomputable def eqNs : List Nat → List Nat → Bool
  | [], [] => true
  | a :: l, b :: m => Nat.beq a b && eqNs l m
  | _, _ => false
theorem eqNs_ok : ∀ {l m : List Nat}, eqNs l m = true → l = m
  | [], [], _ => rfl
  | a :: l, b :: m, h => by
    simp only [eqNs, Bool.and_eq_true] at h
    rw [Nat.eq_of_beq_eq_true h.1, eqNs_ok h.2]
  | [], _ :: _, h => by simp [eqNs] at h
  | _ :: _, [], h => by simp [eqNs] at h
noncomputable def natsOf (b : ByteArray) : List Nat := b.data.toList.map (·.toNat)
theorem natsOf_inj {a b : ByteArray} (h : natsOf a = natsOf b) : a = b := by
  have h1 : a.data.toList = b.data.toList := by
    unfold natsOf at h
    exact List.map_inj_right (fun x y e => UInt8.toNat_inj.1 e) |>.1 h
  cases a; cases b
  simp only [ByteArray.mk.injEq]
  exact Array.toList_inj.1 h1
noncomputable def eqI : Int → Int → Bool
  | .ofNat a, .ofNat b => Nat.beq a b
  | .negSucc a, .negSucc b => Nat.beq a b
  | _, _ => false
theorem eqI_ok : ∀ {a b : Int}, eqI a b = true → a = b
  | .ofNat a, .ofNat b, h => by rw [Nat.eq_of_beq_eq_true h]
  | .negSucc a, .negSucc b, h => by rw [Nat.eq_of_beq_eq_true h]
  | .ofNat a, .negSucc b, h => by simp [eqI] at h
  | .negSucc a, .ofNat b, h => by simp [eqI] at h
noncomputable def eqVal : Value → Value → Bool
  | .int k a, .int k' b => decide (k = k') && eqI a b
  | .bool a, .bool b => a == b
  | .string a, .string b => eqNs (natsOf a) (natsOf b)
  | .nilIface, .nilIface => true
  | .slice none 0 0, .slice none 0 0 => true
  | .pointer none, .pointer none => true
  | .map none, .map none => true
  | _, _ => false
theorem eqVal_ok {u v : Value} (h : eqVal u v = true) : u = v := by
  unfold eqVal at h
  split at h
  · rw [Bool.and_eq_true] at h; rw [of_decide_eq_true h.1, eqI_ok h.2]
  · rw [eq_of_beq h]
  · rw [natsOf_inj (eqNs_ok h)]
  · rfl
  · rfl
  · rfl
  · rfl
  · cases h
noncomputable def eqId (i j : Id) : Bool := Nat.beq i.1 j.1 && Nat.beq i.2 j.2
theorem eqId_ok {i j : Id} (h : eqId i j = true) : i = j := by
  rw [eqId, Bool.and_eq_true] at h
  exact Prod.ext (Nat.eq_of_beq_eq_true h.1) (Nat.eq_of_beq_eq_true h.2)
noncomputable def eqVs : List Value → List Value → Bool
  | [], [] => true
  | a :: l, b :: m => eqVal a b && eqVs l m
  | _, _ => false
theorem eqVs_ok : ∀ {l m : List Value}, eqVs l m = true → l = m
  | [], [], _ => rfl
  | a :: l, b :: m, h => by
    simp only [eqVs, Bool.and_eq_true] at h
    rw [eqVal_ok h.1, eqVs_ok h.2]
  | [], _ :: _, h => by simp [eqVs] at h
  | _ :: _, [], h => by simp [eqVs] at h
mutual
noncomputable def eqPC : PC → PC → Bool
  | .c u, q => match q with | .c v => eqVal u v | _ => false
  | .ifc, q => match q with | .ifc => true | _ => false
  | .any, q => match q with | .any => true | _ => false
  | .emp, q => match q with | .emp => true | _ => false
  | .sl t n xs, q => match q with | .sl t' m ys => (t == t') && Nat.beq n m && eqPCs xs ys | _ => false
  | .at t xs, q => match q with | .at t' ys => (t == t') && eqPCs xs ys | _ => false
  | .loc i o, q => match q with | .loc j o' => eqId i j && Nat.beq o o' | _ => false
  | .vw i o n, q => match q with | .vw j o' m => eqId i j && Nat.beq o o' && Nat.beq n m | _ => false
  | .cut i n, q => match q with | .cut j m => eqId i j && Nat.beq n m | _ => false
  | .rmp t ks ps, q => match q with | .rmp t' ks' qs => (t == t') && eqVs ks ks' && eqPCs ps qs | _ => false
  | .own i, q => match q with | .own j => eqId i j | _ => false
  | .fn f ps, q => match q with | .fn g qs => Nat.beq f g && eqPCs ps qs | _ => false
  | .mth f ps, q => match q with | .mth g qs => Nat.beq f g && eqPCs ps qs | _ => false
noncomputable def eqPCs : List PC → List PC → Bool
  | [], m => match m with | [] => true | _ => false
  | a :: l, m => match m with | b :: m => eqPC a b && eqPCs l m | _ => false
end
mutual
theorem eqPC_ok : ∀ {p q : PC}, eqPC p q = true → p = q
  | .c u, q, h => by
    cases q <;> simp only [eqPC] at h <;> first | (rw [eqVal_ok h]) | cases h
  | .ifc, q, h => by cases q <;> simp only [eqPC] at h <;> first | rfl | cases h
  | .any, q, h => by cases q <;> simp only [eqPC] at h <;> first | rfl | cases h
  | .emp, q, h => by cases q <;> simp only [eqPC] at h <;> first | rfl | cases h
  | .sl t n xs, q, h => by
    cases q <;> simp only [eqPC, Bool.and_eq_true, beq_iff_eq] at h <;> first | (obtain ⟨⟨rfl, h2⟩, h3⟩ := h; rw [Nat.eq_of_beq_eq_true h2, eqPCs_ok h3]) | cases h
  | .at t xs, q, h => by
    cases q <;> simp only [eqPC, Bool.and_eq_true, beq_iff_eq] at h <;> first | (obtain ⟨rfl, h3⟩ := h; rw [eqPCs_ok h3]) | cases h
  | .loc i o, q, h => by
    cases q <;> simp only [eqPC, Bool.and_eq_true, beq_iff_eq] at h <;> first | (obtain ⟨h2, h3⟩ := h; rw [eqId_ok h2, Nat.eq_of_beq_eq_true h3]) | cases h
  | .vw i o n, q, h => by
    cases q <;> simp only [eqPC, Bool.and_eq_true, beq_iff_eq] at h <;> first | (obtain ⟨⟨h1, h2⟩, h3⟩ := h; rw [eqId_ok h1, Nat.eq_of_beq_eq_true h2, Nat.eq_of_beq_eq_true h3]) | cases h
  | .cut i n, q, h => by
    cases q <;> simp only [eqPC, Bool.and_eq_true, beq_iff_eq] at h <;> first | (obtain ⟨h2, h3⟩ := h; rw [eqId_ok h2, Nat.eq_of_beq_eq_true h3]) | cases h
  | .rmp t ks ps, q, h => by
    cases q <;> simp only [eqPC, Bool.and_eq_true, beq_iff_eq] at h <;> first | (obtain ⟨⟨rfl, h2⟩, h3⟩ := h; rw [eqVs_ok h2, eqPCs_ok h3]) | cases h
  | .own i, q, h => by
    cases q <;> simp only [eqPC] at h <;> first | (rw [eqId_ok h]) | cases h
  | .fn f ps, q, h => by
    cases q <;> simp only [eqPC, Bool.and_eq_true, beq_iff_eq] at h <;> first | (obtain ⟨h2, h3⟩ := h; rw [show f = _ from Nat.eq_of_beq_eq_true h2, eqPCs_ok h3]) | cases h
  | .mth f ps, q, h => by
    cases q <;> simp only [eqPC, Bool.and_eq_true, beq_iff_eq] at h <;> first | (obtain ⟨h2, h3⟩ := h; rw [show f = _ from Nat.eq_of_beq_eq_true h2, eqPCs_ok h3]) | cases h
theorem eqPCs_ok : ∀ {l m : List PC}, eqPCs l m = true → l = m
  | [], m, h => by cases m <;> simp only [eqPCs] at h <;> first | rfl | cases h
  | a :: l, m, h => by
    cases m <;> simp only [eqPCs, Bool.and_eq_true] at h <;> first | (rw [eqPC_ok h.1, eqPCs_ok h.2]) | cases h
end
mutual
noncomputable def eqPV : PV → PV → Bool
  | .one p, y => match y with | .one q => eqPC p q | _ => false
  | .agg ps, y => match y with | .agg qs => eqPCs ps qs | _ => false
  | .tup vs, y => match y with | .tup us => eqPVs vs us | _ => false
  | .may b p, y => match y with | .may b' q => (b == b') && eqPV p q | _ => false
  | .full p, y => match y with | .full q => eqPC p q | _ => false
noncomputable def eqPVs : List PV → List PV → Bool
  | [], m => match m with | [] => true | _ => false
  | a :: l, m => match m with | b :: m => eqPV a b && eqPVs l m | _ => false
end
mutual
theorem eqPV_ok : ∀ {p q : PV}, eqPV p q = true → p = q
  | .one u, q, h => by cases q <;> simp only [eqPV] at h <;> first | (rw [eqPC_ok h]) | cases h
  | .agg u, q, h => by cases q <;> simp only [eqPV] at h <;> first | (rw [eqPCs_ok h]) | cases h
  | .tup u, q, h => by cases q <;> simp only [eqPV] at h <;> first | (rw [eqPVs_ok h]) | cases h
  | .may b p, q, h => by
    cases q <;> simp only [eqPV, Bool.and_eq_true, beq_iff_eq] at h <;> first | (obtain ⟨rfl, h3⟩ := h; rw [eqPV_ok h3]) | cases h
  | .full u, q, h => by cases q <;> simp only [eqPV] at h <;> first | (rw [eqPC_ok h]) | cases h
theorem eqPVs_ok : ∀ {l m : List PV}, eqPVs l m = true → l = m
  | [], m, h => by cases m <;> simp only [eqPVs] at h <;> first | rfl | cases h
  | a :: l, m, h => by
    cases m <;> simp only [eqPVs, Bool.and_eq_true] at h <;> first | (rw [eqPV_ok h.1, eqPVs_ok h.2]) | cases h
end
noncomputable def eqEs : List (Value × PC) → List (Value × PC) → Bool
  | [], [] => true
  | a :: l, b :: m => eqVal a.1 b.1 && eqPC a.2 b.2 && eqEs l m
  | _, _ => false
theorem eqEs_ok : ∀ {l m : List (Value × PC)}, eqEs l m = true → l = m
  | [], [], _ => rfl
  | a :: l, b :: m, h => by
    simp only [eqEs, Bool.and_eq_true] at h
    rw [Prod.ext (eqVal_ok h.1.1) (eqPC_ok h.1.2), eqEs_ok h.2]
  | [], _ :: _, h => by simp [eqEs] at h
  | _ :: _, [], h => by simp [eqEs] at h
noncomputable def eqBlk : Blk → Blk → Bool
  | .box t cs, y => match y with | .box t' cs' => Nat.beq t t' && eqPCs cs cs' | _ => false
  | .arr t z n cs, y => match y with | .arr t' z' n' cs' => Nat.beq t t' && Nat.beq z z' && Nat.beq n n' && eqPCs cs cs' | _ => false
  | .mp t es, y => match y with | .mp t' es' => Nat.beq t t' && eqEs es es' | _ => false
theorem eqBlk_ok {a b : Blk} (h : eqBlk a b = true) : a = b := by
  cases a with
  | box t cs =>
    cases b <;> simp only [eqBlk, Bool.and_eq_true] at h <;> first | (rw [show t = _ from Nat.eq_of_beq_eq_true h.1, eqPCs_ok h.2]) | cases h
  | arr t z n cs =>
    cases b <;> simp only [eqBlk, Bool.and_eq_true] at h <;> first | (rw [show t = _ from Nat.eq_of_beq_eq_true h.1.1.1, Nat.eq_of_beq_eq_true h.1.1.2, Nat.eq_of_beq_eq_true h.1.2, eqPCs_ok h.2]) | cases h
  | mp t es =>
    cases b <;> simp only [eqBlk, Bool.and_eq_true] at h <;> first | (rw [show t = _ from Nat.eq_of_beq_eq_true h.1, eqEs_ok h.2]) | cases h
noncomputable def eqBlks : List Blk → List Blk → Bool
  | [], [] => true
  | a :: l, b :: m => eqBlk a b && eqBlks l m
  | _, _ => false
theorem eqBlks_ok : ∀ {l m : List Blk}, eqBlks l m = true → l = m
  | [], [], _ => rfl
  | a :: l, b :: m, h => by
    simp only [eqBlks, Bool.and_eq_true] at h
    rw [eqBlk_ok h.1, eqBlks_ok h.2]
  | [], _ :: _, h => by simp [eqBlks] at h
  | _ :: _, [], h => by simp [eqBlks] at h

/-- A call, and what it gives. -/
structure Ent where
  f : FuncId
  args : List PV
  r : PV
  B : List Blk
noncomputable def lookE : List Ent → Cx
  | [], _, _ => none
  | e :: l, f, args => if (Nat.beq f e.f && eqPVs args e.args) = true then some (e.r, e.B) else lookE l f args
noncomputable def EntOk (P : Program) (gw : World) (gb : Nat) (e : Ent) : Prop := VCall P gw gb e.f e.args e.r e.B
theorem lookE_ok {P : Program} {gw : World} {gb : Nat} : ∀ {l : List Ent}, (∀ e ∈ l, EntOk P gw gb e) → TabOk P gw gb (lookE l)
  | [], _, f, args, r, B, h => by cases h
  | e :: l, ha, f, args, r, B, h => by
    unfold lookE at h
    split at h
    · rename_i hc
      rw [Bool.and_eq_true] at hc
      cases h
      rw [show f = e.f from Nat.eq_of_beq_eq_true hc.1, eqPVs_ok hc.2]
      exact ha e (by simp)
    · exact lookE_ok (fun e' he => ha e' (by simp [he])) f args r B h
noncomputable def isRes (r : PV) (B : List Blk) : Option (PV × List Blk) → Bool
  | some (r', B') => eqPV r' r && eqBlks B' B
  | none => false
theorem isRes_ok {r : PV} {B : List Blk} {x : Option (PV × List Blk)} (h : isRes r B x = true) : x = some (r, B) := by
  unfold isRes at h
  split at h
  · rw [Bool.and_eq_true] at h
    rw [eqPV_ok h.1, eqBlks_ok h.2]
  · cases h
/-- One more entry. -/
theorem ent_ok {P : Program} {gw : World} {gb : Nat} {tab : Cx} {tio : Io} (hk : Knows P gw gb tab tio) (hm : P.follows .mixedOrders = true) (n k : Nat) (e : Ent)
    (h : isRes e.r e.B (evFun P (evAll P tab tio n k).1 (evAll P tab tio n k).2 n e.f e.args) = true) : EntOk P gw gb e :=
  evFun_ok (evAll_ok hk hm n k) hm (isRes_ok h)
end Go.Vm
end

section
namespace Go.Vm
open Go Go.RowKit Go.Proofs
set_option maxRecDepth 100000
set_option linter.unusedSimpArgs false
set_option linter.unusedVariables false

noncomputable def clones : List CloneE := [⟨19, 23, 2, 16⟩, ⟨20, 72, 2, 16⟩, ⟨21, 3, 1, 8⟩, ⟨171, 25, 1, 24⟩, ⟨269, 318, 2, 16⟩, ⟨312, 4, 1, 1⟩]
theorem clones_ok : ∀ x ∈ clones, CloneOk Tryz.prog x := by
  intro x hx
  simp only [clones, List.mem_cons, List.not_mem_nil, or_false] at hx
  rcases hx with rfl | rfl | rfl | rfl | rfl | rfl
  · exact ⟨_, _, _, _, Tryz.func19, by decide, by kernel_rfl, by kernel_rfl, by kernel_rfl, by kernel_rfl, by decide⟩
  · exact ⟨_, _, _, _, Tryz.func20, by decide, by kernel_rfl, by kernel_rfl, by kernel_rfl, by kernel_rfl, by decide⟩
  · exact ⟨_, _, _, _, Tryz.func21, by decide, by kernel_rfl, by kernel_rfl, by kernel_rfl, by kernel_rfl, by decide⟩
  · exact ⟨_, _, _, _, Tryz.func171, by decide, by kernel_rfl, by kernel_rfl, by kernel_rfl, by kernel_rfl, by decide⟩
  · exact ⟨_, _, _, _, Tryz.func269, by decide, by kernel_rfl, by kernel_rfl, by kernel_rfl, by kernel_rfl, by decide⟩
  · exact ⟨_, _, _, _, Tryz.func312, by decide, by kernel_rfl, by kernel_rfl, by kernel_rfl, by kernel_rfl, by decide⟩
noncomputable def seatTab : Cx := cloneTab clones
theorem mixed : Tryz.prog.follows .mixedOrders = true := by kernel_rfl
theorem seatTab_ok (gw : World) : TabOk Tryz.prog gw gw.heap.size seatTab := cloneTab_ok mixed clones_ok
noncomputable def seatIo4 (l l3 l4 : List FuncId) : Io := ⟨fun _ _ _ => none, fun f => if l4.contains f then 4 else if l.contains f then 1 else if l3.contains f then 3 else 0, fun _ _ _ => none⟩
end Go.Vm
end

section
namespace Go.Vm
open Go Go.RowKit Go.Proofs
set_option maxRecDepth 100000
set_option linter.unusedSimpArgs false
set_option linter.unusedVariables false
set_option maxHeartbeats 4000000
theorem ty_u3 : Tryz.prog.underlying 3 = some (.int .i64) := by kernel_rfl
theorem ty_s3 : szT Tryz.prog 3 = some 1 := by kernel_rfl
theorem ty_b3 : bytesT Tryz.prog 3 = some 8 := by kernel_rfl
theorem ty_z3 : zeroCellsT Tryz.prog 3 = some [.c (.int .i64 0)] := by kernel_rfl
theorem ty_u4 : Tryz.prog.underlying 4 = some (.bool) := by kernel_rfl
theorem ty_s4 : szT Tryz.prog 4 = some 1 := by kernel_rfl
theorem ty_b4 : bytesT Tryz.prog 4 = some 1 := by kernel_rfl
theorem ty_z4 : zeroCellsT Tryz.prog 4 = some [.c (.bool false)] := by kernel_rfl
theorem ty_u5 : Tryz.prog.underlying 5 = some (.int .u8) := by kernel_rfl
theorem ty_s5 : szT Tryz.prog 5 = some 1 := by kernel_rfl
theorem ty_b5 : bytesT Tryz.prog 5 = some 1 := by kernel_rfl
theorem ty_z5 : zeroCellsT Tryz.prog 5 = some [.c (.int .u8 0)] := by kernel_rfl
theorem ty_v5 : zeroT Tryz.prog 5 = some (.int .u8 0) := by kernel_rfl
theorem ty_u9 : Tryz.prog.underlying 9 = some (.string) := by kernel_rfl
theorem ty_s9 : szT Tryz.prog 9 = some 1 := by kernel_rfl
theorem ty_b9 : bytesT Tryz.prog 9 = some 16 := by kernel_rfl
theorem ty_z9 : zeroCellsT Tryz.prog 9 = some [.c (.string ⟨#[]⟩)] := by kernel_rfl
theorem ty_u23 : Tryz.prog.underlying 23 = some (.struct #[⟨ "Next", 3, 0, false, "", "", 0⟩, ⟨ "Reset", 3, 1, false, "", "", 8⟩]) := by kernel_rfl
theorem ty_s23 : szT Tryz.prog 23 = some 2 := by kernel_rfl
theorem ty_b23 : bytesT Tryz.prog 23 = some 16 := by kernel_rfl
theorem ty_z23 : zeroCellsT Tryz.prog 23 = some [.c (.int .i64 0), .c (.int .i64 0)] := by kernel_rfl
theorem ty_e23 : eqOkT Tryz.prog 23 = true := by kernel_rfl
theorem ty_u24 : Tryz.prog.underlying 24 = some (.slice 23) := by kernel_rfl
theorem ty_s24 : szT Tryz.prog 24 = some 1 := by kernel_rfl
theorem ty_b24 : bytesT Tryz.prog 24 = some 24 := by kernel_rfl
theorem ty_z24 : zeroCellsT Tryz.prog 24 = some [.c (.slice none 0 0)] := by kernel_rfl
theorem ty_u25 : Tryz.prog.underlying 25 = some (.slice 3) := by kernel_rfl
theorem ty_s25 : szT Tryz.prog 25 = some 1 := by kernel_rfl
theorem ty_b25 : bytesT Tryz.prog 25 = some 24 := by kernel_rfl
theorem ty_z25 : zeroCellsT Tryz.prog 25 = some [.c (.slice none 0 0)] := by kernel_rfl
theorem ty_u26 : Tryz.prog.underlying 26 = some (.slice 72) := by kernel_rfl
theorem ty_s26 : szT Tryz.prog 26 = some 1 := by kernel_rfl
theorem ty_b26 : bytesT Tryz.prog 26 = some 24 := by kernel_rfl
theorem ty_z26 : zeroCellsT Tryz.prog 26 = some [.c (.slice none 0 0)] := by kernel_rfl
theorem ty_u28 : Tryz.prog.underlying 28 = some (.struct #[⟨ "Inputs", 3, 0, false, "", "", 0⟩, ⟨ "Latches", 24, 1, false, "", "", 8⟩, ⟨ "Ands", 26, 2, false, "", "", 32⟩, ⟨ "Bads", 25, 3, false, "", "", 56⟩, ⟨ "Constraints", 25, 4, false, "", "", 80⟩]) := by kernel_rfl
theorem ty_s28 : szT Tryz.prog 28 = some 5 := by kernel_rfl
theorem ty_b28 : bytesT Tryz.prog 28 = some 104 := by kernel_rfl
theorem ty_z28 : zeroCellsT Tryz.prog 28 = some [.c (.int .i64 0), .c (.slice none 0 0), .c (.slice none 0 0), .c (.slice none 0 0), .c (.slice none 0 0)] := by kernel_rfl
theorem ty_u30 : Tryz.prog.underlying 30 = some (.struct #[⟨ "Name", 9, 0, false, "", "", 0⟩, ⟨ "Number", 3, 1, false, "", "", 16⟩]) := by kernel_rfl
theorem ty_s30 : szT Tryz.prog 30 = some 2 := by kernel_rfl
theorem ty_b30 : bytesT Tryz.prog 30 = some 24 := by kernel_rfl
theorem ty_z30 : zeroCellsT Tryz.prog 30 = some [.c (.string ⟨#[]⟩), .c (.int .i64 0)] := by kernel_rfl
theorem ty_e30 : eqOkT Tryz.prog 30 = true := by kernel_rfl
theorem ty_u31 : Tryz.prog.underlying 31 = some (.slice 30) := by kernel_rfl
theorem ty_s31 : szT Tryz.prog 31 = some 1 := by kernel_rfl
theorem ty_b31 : bytesT Tryz.prog 31 = some 24 := by kernel_rfl
theorem ty_z31 : zeroCellsT Tryz.prog 31 = some [.c (.slice none 0 0)] := by kernel_rfl
theorem ty_u32 : Tryz.prog.underlying 32 = some (.slice 4) := by kernel_rfl
theorem ty_s32 : szT Tryz.prog 32 = some 1 := by kernel_rfl
theorem ty_b32 : bytesT Tryz.prog 32 = some 24 := by kernel_rfl
theorem ty_z32 : zeroCellsT Tryz.prog 32 = some [.c (.slice none 0 0)] := by kernel_rfl
theorem ty_u33 : Tryz.prog.underlying 33 = some (.slice 32) := by kernel_rfl
theorem ty_s33 : szT Tryz.prog 33 = some 1 := by kernel_rfl
theorem ty_b33 : bytesT Tryz.prog 33 = some 24 := by kernel_rfl
theorem ty_z33 : zeroCellsT Tryz.prog 33 = some [.c (.slice none 0 0)] := by kernel_rfl
theorem ty_u35 : Tryz.prog.underlying 35 = some (.struct #[⟨ "First", 32, 0, false, "", "", 0⟩, ⟨ "Inputs", 33, 1, false, "", "", 24⟩]) := by kernel_rfl
theorem ty_s35 : szT Tryz.prog 35 = some 2 := by kernel_rfl
theorem ty_b35 : bytesT Tryz.prog 35 = some 48 := by kernel_rfl
theorem ty_z35 : zeroCellsT Tryz.prog 35 = some [.c (.slice none 0 0), .c (.slice none 0 0)] := by kernel_rfl
theorem ty_u37 : Tryz.prog.underlying 37 = some (.struct #[⟨ "Ands", 26, 0, false, "", "", 0⟩, ⟨ "Lit", 3, 1, false, "", "", 24⟩]) := by kernel_rfl
theorem ty_s37 : szT Tryz.prog 37 = some 2 := by kernel_rfl
theorem ty_b37 : bytesT Tryz.prog 37 = some 32 := by kernel_rfl
theorem ty_z37 : zeroCellsT Tryz.prog 37 = some [.c (.slice none 0 0), .c (.int .i64 0)] := by kernel_rfl
theorem ty_u39 : Tryz.prog.underlying 39 = some (.struct #[⟨ "Skip", 3, 0, false, "", "", 0⟩, ⟨ "Phases", 3, 1, false, "", "", 8⟩, ⟨ "Pred", 37, 2, false, "", "", 16⟩]) := by kernel_rfl
theorem ty_s39 : szT Tryz.prog 39 = some 4 := by kernel_rfl
theorem ty_b39 : bytesT Tryz.prog 39 = some 48 := by kernel_rfl
theorem ty_z39 : zeroCellsT Tryz.prog 39 = some [.c (.int .i64 0), .c (.int .i64 0), .c (.slice none 0 0), .c (.int .i64 0)] := by kernel_rfl
theorem ty_u41 : Tryz.prog.underlying 41 = some (.struct #[⟨ "Kind", 5, 0, false, "", "", 0⟩, ⟨ "Trace", 35, 1, false, "", "", 8⟩, ⟨ "Proof", 39, 3, false, "", "", 56⟩]) := by kernel_rfl
theorem ty_s41 : szT Tryz.prog 41 = some 7 := by kernel_rfl
theorem ty_b41 : bytesT Tryz.prog 41 = some 104 := by kernel_rfl
theorem ty_z41 : zeroCellsT Tryz.prog 41 = some [.c (.int .u8 0), .c (.slice none 0 0), .c (.slice none 0 0), .c (.int .i64 0), .c (.int .i64 0), .c (.slice none 0 0), .c (.int .i64 0)] := by kernel_rfl
theorem ty_u42 : Tryz.prog.underlying 42 = some (.int .i64) := by kernel_rfl
theorem ty_s42 : szT Tryz.prog 42 = some 1 := by kernel_rfl
theorem ty_b42 : bytesT Tryz.prog 42 = some 8 := by kernel_rfl
theorem ty_z42 : zeroCellsT Tryz.prog 42 = some [.c (.int .i64 0)] := by kernel_rfl
theorem ty_u46 : Tryz.prog.underlying 46 = some (.struct #[⟨ "Pdr", 4, 0, false, "", "", 0⟩, ⟨ "Number", 3, 1, false, "", "", 8⟩, ⟨ "Budget", 3, 2, false, "", "", 16⟩]) := by kernel_rfl
theorem ty_s46 : szT Tryz.prog 46 = some 3 := by kernel_rfl
theorem ty_b46 : bytesT Tryz.prog 46 = some 24 := by kernel_rfl
theorem ty_z46 : zeroCellsT Tryz.prog 46 = some [.c (.bool false), .c (.int .i64 0), .c (.int .i64 0)] := by kernel_rfl
theorem ty_e46 : eqOkT Tryz.prog 46 = true := by kernel_rfl
theorem ty_u54 : Tryz.prog.underlying 54 = some (.slice 25) := by kernel_rfl
theorem ty_s54 : szT Tryz.prog 54 = some 1 := by kernel_rfl
theorem ty_b54 : bytesT Tryz.prog 54 = some 24 := by kernel_rfl
theorem ty_z54 : zeroCellsT Tryz.prog 54 = some [.c (.slice none 0 0)] := by kernel_rfl
theorem ty_u56 : Tryz.prog.underlying 56 = some (.struct #[⟨ "Skip", 3, 0, false, "", "", 0⟩, ⟨ "Phases", 3, 1, false, "", "", 8⟩, ⟨ "First", 25, 2, false, "", "", 16⟩, ⟨ "Inputs", 54, 3, false, "", "", 40⟩, ⟨ "Latches", 25, 4, false, "", "", 64⟩, ⟨ "Fact", 37, 5, false, "", "", 88⟩]) := by kernel_rfl
theorem ty_s56 : szT Tryz.prog 56 = some 7 := by kernel_rfl
theorem ty_b56 : bytesT Tryz.prog 56 = some 120 := by kernel_rfl
theorem ty_z56 : zeroCellsT Tryz.prog 56 = some [.c (.int .i64 0), .c (.int .i64 0), .c (.slice none 0 0), .c (.slice none 0 0), .c (.slice none 0 0), .c (.slice none 0 0), .c (.int .i64 0)] := by kernel_rfl
theorem ty_u58 : Tryz.prog.underlying 58 = some (.struct #[⟨ "Circuit", 28, 0, false, "", "", 0⟩, ⟨ "Lift", 56, 5, false, "", "", 104⟩]) := by kernel_rfl
theorem ty_s58 : szT Tryz.prog 58 = some 12 := by kernel_rfl
theorem ty_b58 : bytesT Tryz.prog 58 = some 224 := by kernel_rfl
theorem ty_z58 : zeroCellsT Tryz.prog 58 = some [.c (.int .i64 0), .c (.slice none 0 0), .c (.slice none 0 0), .c (.slice none 0 0), .c (.slice none 0 0), .c (.int .i64 0), .c (.int .i64 0), .c (.slice none 0 0), .c (.slice none 0 0), .c (.slice none 0 0), .c (.slice none 0 0), .c (.int .i64 0)] := by kernel_rfl
theorem ty_u72 : Tryz.prog.underlying 72 = some (.struct #[⟨ "A", 3, 0, false, "", "", 0⟩, ⟨ "B", 3, 1, false, "", "", 8⟩]) := by kernel_rfl
theorem ty_s72 : szT Tryz.prog 72 = some 2 := by kernel_rfl
theorem ty_b72 : bytesT Tryz.prog 72 = some 16 := by kernel_rfl
theorem ty_z72 : zeroCellsT Tryz.prog 72 = some [.c (.int .i64 0), .c (.int .i64 0)] := by kernel_rfl
theorem ty_e72 : eqOkT Tryz.prog 72 = true := by kernel_rfl
theorem ty_u81 : Tryz.prog.underlying 81 = some (.slice 54) := by kernel_rfl
theorem ty_s81 : szT Tryz.prog 81 = some 1 := by kernel_rfl
theorem ty_b81 : bytesT Tryz.prog 81 = some 24 := by kernel_rfl
theorem ty_z81 : zeroCellsT Tryz.prog 81 = some [.c (.slice none 0 0)] := by kernel_rfl
theorem ty_u83 : Tryz.prog.underlying 83 = some (.struct #[⟨ "Levels", 81, 0, false, "", "", 0⟩]) := by kernel_rfl
theorem ty_s83 : szT Tryz.prog 83 = some 1 := by kernel_rfl
theorem ty_b83 : bytesT Tryz.prog 83 = some 24 := by kernel_rfl
theorem ty_z83 : zeroCellsT Tryz.prog 83 = some [.c (.slice none 0 0)] := by kernel_rfl
theorem ty_u85 : Tryz.prog.underlying 85 = some (.struct #[⟨ "Kind", 5, 0, false, "", "", 0⟩, ⟨ "Trace", 35, 1, false, "", "", 8⟩, ⟨ "Pred", 37, 3, false, "", "", 56⟩, ⟨ "Frames", 83, 5, false, "", "", 88⟩, ⟨ "Obligations", 3, 6, false, "", "", 112⟩, ⟨ "Most", 3, 7, false, "", "", 120⟩]) := by kernel_rfl
theorem ty_s85 : szT Tryz.prog 85 = some 8 := by kernel_rfl
theorem ty_b85 : bytesT Tryz.prog 85 = some 128 := by kernel_rfl
theorem ty_z85 : zeroCellsT Tryz.prog 85 = some [.c (.int .u8 0), .c (.slice none 0 0), .c (.slice none 0 0), .c (.slice none 0 0), .c (.int .i64 0), .c (.slice none 0 0), .c (.int .i64 0), .c (.int .i64 0)] := by kernel_rfl
theorem ty_u89 : Tryz.prog.underlying 89 = some (.struct #[⟨ "Is", 4, 0, false, "", "", 0⟩, ⟨ "Trace", 35, 1, false, "", "", 8⟩, ⟨ "Depths", 3, 3, false, "", "", 56⟩, ⟨ "Most", 3, 4, false, "", "", 64⟩]) := by kernel_rfl
theorem ty_s89 : szT Tryz.prog 89 = some 5 := by kernel_rfl
theorem ty_b89 : bytesT Tryz.prog 89 = some 72 := by kernel_rfl
theorem ty_z89 : zeroCellsT Tryz.prog 89 = some [.c (.bool false), .c (.slice none 0 0), .c (.slice none 0 0), .c (.int .i64 0), .c (.int .i64 0)] := by kernel_rfl
theorem ty_u104 : Tryz.prog.underlying 104 = some (.array 4 3) := by kernel_rfl
theorem ty_s104 : szT Tryz.prog 104 = some 4 := by kernel_rfl
theorem ty_b104 : bytesT Tryz.prog 104 = some 32 := by kernel_rfl
theorem ty_u106 : Tryz.prog.underlying 106 = some (.int .u64) := by kernel_rfl
theorem ty_s106 : szT Tryz.prog 106 = some 1 := by kernel_rfl
theorem ty_b106 : bytesT Tryz.prog 106 = some 8 := by kernel_rfl
theorem ty_z106 : zeroCellsT Tryz.prog 106 = some [.c (.int .u64 0)] := by kernel_rfl
theorem ty_u107 : Tryz.prog.underlying 107 = some (.func #[3] #[4] false) := by kernel_rfl
theorem ty_s107 : szT Tryz.prog 107 = some 1 := by kernel_rfl
theorem ty_b107 : bytesT Tryz.prog 107 = some 8 := by kernel_rfl
theorem ty_u115 : Tryz.prog.underlying 115 = some (.slice 28) := by kernel_rfl
theorem ty_s115 : szT Tryz.prog 115 = some 1 := by kernel_rfl
theorem ty_b115 : bytesT Tryz.prog 115 = some 24 := by kernel_rfl
theorem ty_z115 : zeroCellsT Tryz.prog 115 = some [.c (.slice none 0 0)] := by kernel_rfl
theorem ty_u123 : Tryz.prog.underlying 123 = some (.struct #[⟨ "c", 28, 0, false, "", "spiritlevel/pdr", 0⟩, ⟨ "budget", 3, 5, false, "", "spiritlevel/pdr", 104⟩, ⟨ "out", 85, 6, false, "", "spiritlevel/pdr", 112⟩]) := by kernel_rfl
theorem ty_s123 : szT Tryz.prog 123 = some 14 := by kernel_rfl
theorem ty_b123 : bytesT Tryz.prog 123 = some 240 := by kernel_rfl
theorem ty_z123 : zeroCellsT Tryz.prog 123 = some [.c (.int .i64 0), .c (.slice none 0 0), .c (.slice none 0 0), .c (.slice none 0 0), .c (.slice none 0 0), .c (.int .i64 0), .c (.int .u8 0), .c (.slice none 0 0), .c (.slice none 0 0), .c (.slice none 0 0), .c (.int .i64 0), .c (.slice none 0 0), .c (.int .i64 0), .c (.int .i64 0)] := by kernel_rfl
theorem ty_u126 : Tryz.prog.underlying 126 = some (.func #[3] #[3] false) := by kernel_rfl
theorem ty_s126 : szT Tryz.prog 126 = some 1 := by kernel_rfl
theorem ty_b126 : bytesT Tryz.prog 126 = some 8 := by kernel_rfl
theorem ty_u145 : Tryz.prog.underlying 145 = some (.pointer 147) := by kernel_rfl
theorem ty_s145 : szT Tryz.prog 145 = some 1 := by kernel_rfl
theorem ty_b145 : bytesT Tryz.prog 145 = some 8 := by kernel_rfl
theorem ty_z145 : zeroCellsT Tryz.prog 145 = some [.c (.pointer none)] := by kernel_rfl
theorem ty_u147 : Tryz.prog.underlying 147 = some (.struct #[⟨ "c", 28, 0, false, "", "spiritlevel/verdict", 0⟩, ⟨ "with", 28, 5, false, "", "spiritlevel/verdict", 104⟩, ⟨ "lit", 3, 10, false, "", "spiritlevel/verdict", 208⟩, ⟨ "p", 39, 11, false, "", "spiritlevel/verdict", 216⟩, ⟨ "budget", 3, 15, false, "", "spiritlevel/verdict", 264⟩]) := by kernel_rfl
theorem ty_s147 : szT Tryz.prog 147 = some 16 := by kernel_rfl
theorem ty_b147 : bytesT Tryz.prog 147 = some 272 := by kernel_rfl
theorem ty_z147 : zeroCellsT Tryz.prog 147 = some [.c (.int .i64 0), .c (.slice none 0 0), .c (.slice none 0 0), .c (.slice none 0 0), .c (.slice none 0 0), .c (.int .i64 0), .c (.slice none 0 0), .c (.slice none 0 0), .c (.slice none 0 0), .c (.slice none 0 0), .c (.int .i64 0), .c (.int .i64 0), .c (.int .i64 0), .c (.slice none 0 0), .c (.int .i64 0), .c (.int .i64 0)] := by kernel_rfl
theorem ty_u153 : Tryz.prog.underlying 153 = some (.slice 9) := by kernel_rfl
theorem ty_s153 : szT Tryz.prog 153 = some 1 := by kernel_rfl
theorem ty_b153 : bytesT Tryz.prog 153 = some 24 := by kernel_rfl
theorem ty_z153 : zeroCellsT Tryz.prog 153 = some [.c (.slice none 0 0)] := by kernel_rfl
theorem ty_u165 : Tryz.prog.underlying 165 = some (.map 3 3) := by kernel_rfl
theorem ty_s165 : szT Tryz.prog 165 = some 1 := by kernel_rfl
theorem ty_b165 : bytesT Tryz.prog 165 = some 8 := by kernel_rfl
theorem ty_u168 : Tryz.prog.underlying 168 = some (.slice 215) := by kernel_rfl
theorem ty_s168 : szT Tryz.prog 168 = some 1 := by kernel_rfl
theorem ty_b168 : bytesT Tryz.prog 168 = some 24 := by kernel_rfl
theorem ty_z168 : zeroCellsT Tryz.prog 168 = some [.c (.slice none 0 0)] := by kernel_rfl
theorem ty_u196 : Tryz.prog.underlying 196 = some (.struct #[⟨ "ands", 26, 0, false, "", "spiritlevel/preds", 0⟩, ⟨ "first", 3, 1, false, "", "spiritlevel/preds", 24⟩, ⟨ "latch", 126, 2, false, "", "spiritlevel/preds", 32⟩, ⟨ "full", 4, 3, false, "", "spiritlevel/preds", 40⟩]) := by kernel_rfl
theorem ty_s196 : szT Tryz.prog 196 = some 4 := by kernel_rfl
theorem ty_b196 : bytesT Tryz.prog 196 = some 48 := by kernel_rfl
theorem ty_u201 : Tryz.prog.underlying 201 = some (.map 283 3) := by kernel_rfl
theorem ty_s201 : szT Tryz.prog 201 = some 1 := by kernel_rfl
theorem ty_b201 : bytesT Tryz.prog 201 = some 8 := by kernel_rfl
theorem ty_u203 : Tryz.prog.underlying 203 = some (.struct #[⟨ "c", 28, 0, false, "", "spiritlevel/hash", 0⟩, ⟨ "known", 201, 5, false, "", "spiritlevel/hash", 104⟩]) := by kernel_rfl
theorem ty_s203 : szT Tryz.prog 203 = some 6 := by kernel_rfl
theorem ty_b203 : bytesT Tryz.prog 203 = some 112 := by kernel_rfl
theorem ty_u208 : Tryz.prog.underlying 208 = some (.slice 211) := by kernel_rfl
theorem ty_s208 : szT Tryz.prog 208 = some 1 := by kernel_rfl
theorem ty_b208 : bytesT Tryz.prog 208 = some 24 := by kernel_rfl
theorem ty_z208 : zeroCellsT Tryz.prog 208 = some [.c (.slice none 0 0)] := by kernel_rfl
theorem ty_u211 : Tryz.prog.underlying 211 = some (.int .u64) := by kernel_rfl
theorem ty_s211 : szT Tryz.prog 211 = some 1 := by kernel_rfl
theorem ty_b211 : bytesT Tryz.prog 211 = some 8 := by kernel_rfl
theorem ty_z211 : zeroCellsT Tryz.prog 211 = some [.c (.int .u64 0)] := by kernel_rfl
theorem ty_u215 : Tryz.prog.underlying 215 = some (.slice 5) := by kernel_rfl
theorem ty_s215 : szT Tryz.prog 215 = some 1 := by kernel_rfl
theorem ty_b215 : bytesT Tryz.prog 215 = some 24 := by kernel_rfl
theorem ty_z215 : zeroCellsT Tryz.prog 215 = some [.c (.slice none 0 0)] := by kernel_rfl
theorem ty_u224 : Tryz.prog.underlying 224 = some (.map 72 3) := by kernel_rfl
theorem ty_s224 : szT Tryz.prog 224 = some 1 := by kernel_rfl
theorem ty_b224 : bytesT Tryz.prog 224 = some 8 := by kernel_rfl
theorem ty_u226 : Tryz.prog.underlying 226 = some (.struct #[⟨ "latches", 3, 0, false, "", "spiritlevel/ternsim", 0⟩, ⟨ "p", 37, 1, false, "", "spiritlevel/ternsim", 8⟩, ⟨ "known", 224, 3, false, "", "spiritlevel/ternsim", 40⟩]) := by kernel_rfl
theorem ty_s226 : szT Tryz.prog 226 = some 4 := by kernel_rfl
theorem ty_b226 : bytesT Tryz.prog 226 = some 48 := by kernel_rfl
theorem ty_u230 : Tryz.prog.underlying 230 = some (.struct #[⟨ "latches", 3, 0, false, "", "spiritlevel/latchcorr", 0⟩, ⟨ "p", 37, 1, false, "", "spiritlevel/latchcorr", 8⟩]) := by kernel_rfl
theorem ty_s230 : szT Tryz.prog 230 = some 3 := by kernel_rfl
theorem ty_b230 : bytesT Tryz.prog 230 = some 40 := by kernel_rfl
theorem ty_z230 : zeroCellsT Tryz.prog 230 = some [.c (.int .i64 0), .c (.slice none 0 0), .c (.int .i64 0)] := by kernel_rfl
theorem ty_u234 : Tryz.prog.underlying 234 = some (.struct #[⟨ "c", 28, 0, false, "", "spiritlevel/prefix", 0⟩, ⟨ "from", 28, 5, false, "", "spiritlevel/prefix", 104⟩, ⟨ "known", 224, 10, false, "", "spiritlevel/prefix", 208⟩]) := by kernel_rfl
theorem ty_s234 : szT Tryz.prog 234 = some 11 := by kernel_rfl
theorem ty_b234 : bytesT Tryz.prog 234 = some 216 := by kernel_rfl
theorem ty_u236 : Tryz.prog.underlying 236 = some (.struct #[⟨ "nexts", 25, 0, false, "", "spiritlevel/prefix", 0⟩, ⟨ "bad", 3, 1, false, "", "spiritlevel/prefix", 24⟩, ⟨ "right", 3, 2, false, "", "spiritlevel/prefix", 32⟩]) := by kernel_rfl
theorem ty_s236 : szT Tryz.prog 236 = some 3 := by kernel_rfl
theorem ty_b236 : bytesT Tryz.prog 236 = some 40 := by kernel_rfl
theorem ty_z236 : zeroCellsT Tryz.prog 236 = some [.c (.slice none 0 0), .c (.int .i64 0), .c (.int .i64 0)] := by kernel_rfl
theorem ty_u242 : Tryz.prog.underlying 242 = some (.struct #[⟨ "c", 28, 0, false, "", "spiritlevel/phases", 0⟩, ⟨ "from", 28, 5, false, "", "spiritlevel/phases", 104⟩, ⟨ "known", 224, 10, false, "", "spiritlevel/phases", 208⟩]) := by kernel_rfl
theorem ty_s242 : szT Tryz.prog 242 = some 11 := by kernel_rfl
theorem ty_b242 : bytesT Tryz.prog 242 = some 216 := by kernel_rfl
theorem ty_u244 : Tryz.prog.underlying 244 = some (.struct #[⟨ "nexts", 25, 0, false, "", "spiritlevel/phases", 0⟩, ⟨ "bad", 3, 1, false, "", "spiritlevel/phases", 24⟩, ⟨ "right", 3, 2, false, "", "spiritlevel/phases", 32⟩]) := by kernel_rfl
theorem ty_s244 : szT Tryz.prog 244 = some 3 := by kernel_rfl
theorem ty_b244 : bytesT Tryz.prog 244 = some 40 := by kernel_rfl
theorem ty_z244 : zeroCellsT Tryz.prog 244 = some [.c (.slice none 0 0), .c (.int .i64 0), .c (.int .i64 0)] := by kernel_rfl
theorem ty_u250 : Tryz.prog.underlying 250 = some (.struct #[⟨ "Vars", 3, 0, false, "", "", 0⟩, ⟨ "Lits", 54, 1, false, "", "", 8⟩, ⟨ "Clauses", 54, 2, false, "", "", 32⟩]) := by kernel_rfl
theorem ty_s250 : szT Tryz.prog 250 = some 3 := by kernel_rfl
theorem ty_b250 : bytesT Tryz.prog 250 = some 56 := by kernel_rfl
theorem ty_z250 : zeroCellsT Tryz.prog 250 = some [.c (.int .i64 0), .c (.slice none 0 0), .c (.slice none 0 0)] := by kernel_rfl
theorem ty_u254 : Tryz.prog.underlying 254 = some (.struct #[⟨ "Sat", 4, 0, false, "", "", 0⟩, ⟨ "Model", 32, 1, false, "", "", 8⟩, ⟨ "Core", 25, 2, false, "", "", 32⟩, ⟨ "Log", 54, 3, false, "", "", 56⟩, ⟨ "Conflicts", 3, 4, false, "", "", 80⟩]) := by kernel_rfl
theorem ty_s254 : szT Tryz.prog 254 = some 5 := by kernel_rfl
theorem ty_b254 : bytesT Tryz.prog 254 = some 88 := by kernel_rfl
theorem ty_z254 : zeroCellsT Tryz.prog 254 = some [.c (.bool false), .c (.slice none 0 0), .c (.slice none 0 0), .c (.slice none 0 0), .c (.int .i64 0)] := by kernel_rfl
theorem ty_u259 : Tryz.prog.underlying 259 = some (.struct #[⟨ "Is", 4, 0, false, "", "", 0⟩, ⟨ "State", 32, 1, false, "", "", 8⟩, ⟨ "Inputs", 32, 2, false, "", "", 32⟩, ⟨ "Most", 3, 3, false, "", "", 56⟩]) := by kernel_rfl
theorem ty_s259 : szT Tryz.prog 259 = some 4 := by kernel_rfl
theorem ty_b259 : bytesT Tryz.prog 259 = some 64 := by kernel_rfl
theorem ty_z259 : zeroCellsT Tryz.prog 259 = some [.c (.bool false), .c (.slice none 0 0), .c (.slice none 0 0), .c (.int .i64 0)] := by kernel_rfl
theorem ty_u283 : Tryz.prog.underlying 283 = some (.array 2 3) := by kernel_rfl
theorem ty_s283 : szT Tryz.prog 283 = some 2 := by kernel_rfl
theorem ty_b283 : bytesT Tryz.prog 283 = some 16 := by kernel_rfl
theorem ty_u289 : Tryz.prog.underlying 289 = some (.array 6 211) := by kernel_rfl
theorem ty_s289 : szT Tryz.prog 289 = some 6 := by kernel_rfl
theorem ty_b289 : bytesT Tryz.prog 289 = some 48 := by kernel_rfl
theorem ty_u300 : Tryz.prog.underlying 300 = some (.struct #[⟨ "Vars", 3, 0, false, "", "", 0⟩, ⟨ "Trail", 25, 1, false, "", "", 8⟩, ⟨ "Starts", 25, 2, false, "", "", 32⟩]) := by kernel_rfl
theorem ty_s300 : szT Tryz.prog 300 = some 3 := by kernel_rfl
theorem ty_b300 : bytesT Tryz.prog 300 = some 56 := by kernel_rfl
theorem ty_z300 : zeroCellsT Tryz.prog 300 = some [.c (.int .i64 0), .c (.slice none 0 0), .c (.slice none 0 0)] := by kernel_rfl
theorem ty_u302 : Tryz.prog.underlying 302 = some (.struct #[⟨ "vars", 3, 0, false, "", "spiritlevel/solve", 0⟩, ⟨ "all", 54, 1, false, "", "spiritlevel/solve", 8⟩, ⟨ "a", 300, 2, false, "", "spiritlevel/solve", 32⟩, ⟨ "out", 254, 5, false, "", "spiritlevel/solve", 88⟩]) := by kernel_rfl
theorem ty_s302 : szT Tryz.prog 302 = some 10 := by kernel_rfl
theorem ty_b302 : bytesT Tryz.prog 302 = some 176 := by kernel_rfl
theorem ty_z302 : zeroCellsT Tryz.prog 302 = some [.c (.int .i64 0), .c (.slice none 0 0), .c (.int .i64 0), .c (.slice none 0 0), .c (.slice none 0 0), .c (.bool false), .c (.slice none 0 0), .c (.slice none 0 0), .c (.slice none 0 0), .c (.int .i64 0)] := by kernel_rfl
theorem ty_u307 : Tryz.prog.underlying 307 = some (.pointer 353) := by kernel_rfl
theorem ty_s307 : szT Tryz.prog 307 = some 1 := by kernel_rfl
theorem ty_b307 : bytesT Tryz.prog 307 = some 8 := by kernel_rfl
theorem ty_z307 : zeroCellsT Tryz.prog 307 = some [.c (.pointer none)] := by kernel_rfl
theorem ty_u315 : Tryz.prog.underlying 315 = some (.struct #[⟨ "Cube", 25, 0, false, "", "", 0⟩, ⟨ "Inputs", 32, 1, false, "", "", 24⟩, ⟨ "Next", 3, 2, false, "", "", 48⟩]) := by kernel_rfl
theorem ty_s315 : szT Tryz.prog 315 = some 3 := by kernel_rfl
theorem ty_b315 : bytesT Tryz.prog 315 = some 56 := by kernel_rfl
theorem ty_z315 : zeroCellsT Tryz.prog 315 = some [.c (.slice none 0 0), .c (.slice none 0 0), .c (.int .i64 0)] := by kernel_rfl
theorem ty_u316 : Tryz.prog.underlying 316 = some (.slice 315) := by kernel_rfl
theorem ty_s316 : szT Tryz.prog 316 = some 1 := by kernel_rfl
theorem ty_b316 : bytesT Tryz.prog 316 = some 24 := by kernel_rfl
theorem ty_z316 : zeroCellsT Tryz.prog 316 = some [.c (.slice none 0 0)] := by kernel_rfl
theorem ty_u318 : Tryz.prog.underlying 318 = some (.struct #[⟨ "Frame", 3, 0, false, "", "", 0⟩, ⟨ "Number", 3, 1, false, "", "", 8⟩]) := by kernel_rfl
theorem ty_s318 : szT Tryz.prog 318 = some 2 := by kernel_rfl
theorem ty_b318 : bytesT Tryz.prog 318 = some 16 := by kernel_rfl
theorem ty_z318 : zeroCellsT Tryz.prog 318 = some [.c (.int .i64 0), .c (.int .i64 0)] := by kernel_rfl
theorem ty_e318 : eqOkT Tryz.prog 318 = true := by kernel_rfl
theorem ty_u319 : Tryz.prog.underlying 319 = some (.slice 318) := by kernel_rfl
theorem ty_s319 : szT Tryz.prog 319 = some 1 := by kernel_rfl
theorem ty_b319 : bytesT Tryz.prog 319 = some 24 := by kernel_rfl
theorem ty_z319 : zeroCellsT Tryz.prog 319 = some [.c (.slice none 0 0)] := by kernel_rfl
theorem ty_u353 : Tryz.prog.underlying 353 = some (.struct #[⟨ "c", 28, 0, false, "", "spiritlevel/frames", 0⟩, ⟨ "x", 250, 5, false, "", "spiritlevel/frames", 104⟩, ⟨ "row", 25, 8, false, "", "spiritlevel/frames", 160⟩]) := by kernel_rfl
theorem ty_s353 : szT Tryz.prog 353 = some 9 := by kernel_rfl
theorem ty_b353 : bytesT Tryz.prog 353 = some 184 := by kernel_rfl
theorem ty_z353 : zeroCellsT Tryz.prog 353 = some [.c (.int .i64 0), .c (.slice none 0 0), .c (.slice none 0 0), .c (.slice none 0 0), .c (.slice none 0 0), .c (.int .i64 0), .c (.slice none 0 0), .c (.slice none 0 0), .c (.slice none 0 0)] := by kernel_rfl
theorem ty_u363 : Tryz.prog.underlying 363 = some (.struct #[⟨ "Cube", 25, 0, false, "", "", 0⟩, ⟨ "Most", 3, 1, false, "", "", 24⟩]) := by kernel_rfl
theorem ty_s363 : szT Tryz.prog 363 = some 2 := by kernel_rfl
theorem ty_b363 : bytesT Tryz.prog 363 = some 32 := by kernel_rfl
theorem ty_z363 : zeroCellsT Tryz.prog 363 = some [.c (.slice none 0 0), .c (.int .i64 0)] := by kernel_rfl
theorem ty_u371 : Tryz.prog.underlying 371 = some (.struct #[⟨ "out", 250, 0, false, "", "spiritlevel/unroll", 0⟩]) := by kernel_rfl
theorem ty_s371 : szT Tryz.prog 371 = some 3 := by kernel_rfl
theorem ty_b371 : bytesT Tryz.prog 371 = some 56 := by kernel_rfl
theorem ty_z371 : zeroCellsT Tryz.prog 371 = some [.c (.int .i64 0), .c (.slice none 0 0), .c (.slice none 0 0)] := by kernel_rfl
theorem ty_u378 : Tryz.prog.underlying 378 = some (.struct #[⟨ "vars", 3, 0, false, "", "spiritlevel/assume", 0⟩, ⟨ "assumptions", 25, 1, false, "", "spiritlevel/assume", 8⟩, ⟨ "heap", 25, 2, false, "", "spiritlevel/assume", 32⟩, ⟨ "all", 54, 3, false, "", "spiritlevel/assume", 56⟩, ⟨ "a", 300, 4, false, "", "spiritlevel/assume", 80⟩, ⟨ "out", 254, 7, false, "", "spiritlevel/assume", 136⟩]) := by kernel_rfl
theorem ty_s378 : szT Tryz.prog 378 = some 12 := by kernel_rfl
theorem ty_b378 : bytesT Tryz.prog 378 = some 224 := by kernel_rfl
theorem ty_z378 : zeroCellsT Tryz.prog 378 = some [.c (.int .i64 0), .c (.slice none 0 0), .c (.slice none 0 0), .c (.slice none 0 0), .c (.int .i64 0), .c (.slice none 0 0), .c (.slice none 0 0), .c (.bool false), .c (.slice none 0 0), .c (.slice none 0 0), .c (.slice none 0 0), .c (.int .i64 0)] := by kernel_rfl
theorem ty_u387 : Tryz.prog.underlying 387 = some (.slice 391) := by kernel_rfl
theorem ty_s387 : szT Tryz.prog 387 = some 1 := by kernel_rfl
theorem ty_b387 : bytesT Tryz.prog 387 = some 24 := by kernel_rfl
theorem ty_z387 : zeroCellsT Tryz.prog 387 = some [.c (.slice none 0 0)] := by kernel_rfl
theorem ty_u391 : Tryz.prog.underlying 391 = some (.struct #[⟨ "lit", 3, 0, false, "", "spiritlevel/jump", 0⟩, ⟨ "level", 3, 1, false, "", "spiritlevel/jump", 8⟩]) := by kernel_rfl
theorem ty_s391 : szT Tryz.prog 391 = some 2 := by kernel_rfl
theorem ty_b391 : bytesT Tryz.prog 391 = some 16 := by kernel_rfl
theorem ty_z391 : zeroCellsT Tryz.prog 391 = some [.c (.int .i64 0), .c (.int .i64 0)] := by kernel_rfl
theorem ty_e391 : eqOkT Tryz.prog 391 = true := by kernel_rfl
theorem ty_u397 : Tryz.prog.underlying 397 = some (.func #[215, 215] #[4] false) := by kernel_rfl
theorem ty_s397 : szT Tryz.prog 397 = some 1 := by kernel_rfl
theorem ty_b397 : bytesT Tryz.prog 397 = some 8 := by kernel_rfl
theorem ty_u413 : Tryz.prog.underlying 413 = some (.int .i64) := by kernel_rfl
theorem ty_s413 : szT Tryz.prog 413 = some 1 := by kernel_rfl
theorem ty_b413 : bytesT Tryz.prog 413 = some 8 := by kernel_rfl
theorem ty_z413 : zeroCellsT Tryz.prog 413 = some [.c (.int .i64 0)] := by kernel_rfl
theorem ty_u429 : Tryz.prog.underlying 429 = some (.array 4001 4) := by kernel_rfl
theorem ty_s429 : szT Tryz.prog 429 = some 4001 := by kernel_rfl
theorem ty_b429 : bytesT Tryz.prog 429 = some 4001 := by kernel_rfl
theorem ty_u432 : Tryz.prog.underlying 432 = some (.int .u64) := by kernel_rfl
theorem ty_s432 : szT Tryz.prog 432 = some 1 := by kernel_rfl
theorem ty_b432 : bytesT Tryz.prog 432 = some 8 := by kernel_rfl
theorem ty_z432 : zeroCellsT Tryz.prog 432 = some [.c (.int .u64 0)] := by kernel_rfl
attribute [push_cast] ty_u3 ty_s3 ty_b3 ty_z3 ty_u4 ty_s4 ty_b4 ty_z4 ty_u5 ty_s5 ty_b5 ty_z5 ty_v5 ty_u9 ty_s9 ty_b9 ty_z9 ty_u23 ty_s23 ty_b23 ty_z23 ty_e23 ty_u24 ty_s24 ty_b24 ty_z24 ty_u25 ty_s25 ty_b25 ty_z25 ty_u26 ty_s26 ty_b26 ty_z26 ty_u28 ty_s28 ty_b28 ty_z28 ty_u30 ty_s30 ty_b30 ty_z30 ty_e30 ty_u31 ty_s31 ty_b31 ty_z31 ty_u32 ty_s32 ty_b32 ty_z32 ty_u33 ty_s33 ty_b33 ty_z33 ty_u35 ty_s35 ty_b35 ty_z35 ty_u37 ty_s37 ty_b37 ty_z37 ty_u39 ty_s39 ty_b39 ty_z39 ty_u41 ty_s41 ty_b41 ty_z41 ty_u42 ty_s42 ty_b42 ty_z42 ty_u46 ty_s46 ty_b46 ty_z46 ty_e46 ty_u54 ty_s54 ty_b54 ty_z54 ty_u56 ty_s56 ty_b56 ty_z56 ty_u58 ty_s58 ty_b58 ty_z58 ty_u72 ty_s72 ty_b72 ty_z72 ty_e72 ty_u81 ty_s81 ty_b81 ty_z81 ty_u83 ty_s83 ty_b83 ty_z83 ty_u85 ty_s85 ty_b85 ty_z85 ty_u89 ty_s89 ty_b89 ty_z89 ty_u104 ty_s104 ty_b104 ty_u106 ty_s106 ty_b106 ty_z106 ty_u107 ty_s107 ty_b107 ty_u115 ty_s115 ty_b115 ty_z115 ty_u123 ty_s123 ty_b123 ty_z123 ty_u126 ty_s126 ty_b126 ty_u145 ty_s145 ty_b145 ty_z145 ty_u147 ty_s147 ty_b147 ty_z147 ty_u153 ty_s153 ty_b153 ty_z153 ty_u165 ty_s165 ty_b165 ty_u168 ty_s168 ty_b168 ty_z168 ty_u196 ty_s196 ty_b196 ty_u201 ty_s201 ty_b201 ty_u203 ty_s203 ty_b203 ty_u208 ty_s208 ty_b208 ty_z208 ty_u211 ty_s211 ty_b211 ty_z211 ty_u215 ty_s215 ty_b215 ty_z215 ty_u224 ty_s224 ty_b224 ty_u226 ty_s226 ty_b226 ty_u230 ty_s230 ty_b230 ty_z230 ty_u234 ty_s234 ty_b234 ty_u236 ty_s236 ty_b236 ty_z236 ty_u242 ty_s242 ty_b242 ty_u244 ty_s244 ty_b244 ty_z244 ty_u250 ty_s250 ty_b250 ty_z250 ty_u254 ty_s254 ty_b254 ty_z254 ty_u259 ty_s259 ty_b259 ty_z259 ty_u283 ty_s283 ty_b283 ty_u289 ty_s289 ty_b289 ty_u300 ty_s300 ty_b300 ty_z300 ty_u302 ty_s302 ty_b302 ty_z302 ty_u307 ty_s307 ty_b307 ty_z307 ty_u315 ty_s315 ty_b315 ty_z315 ty_u316 ty_s316 ty_b316 ty_z316 ty_u318 ty_s318 ty_b318 ty_z318 ty_e318 ty_u319 ty_s319 ty_b319 ty_z319 ty_u353 ty_s353 ty_b353 ty_z353 ty_u363 ty_s363 ty_b363 ty_z363 ty_u371 ty_s371 ty_b371 ty_z371 ty_u378 ty_s378 ty_b378 ty_z378 ty_u387 ty_s387 ty_b387 ty_z387 ty_u391 ty_s391 ty_b391 ty_z391 ty_e391 ty_u397 ty_s397 ty_b397 ty_u413 ty_s413 ty_b413 ty_z413 ty_u429 ty_s429 ty_b429 ty_u432 ty_s432 ty_b432 ty_z432
attribute [push_cast] vAll vMore isNilC clrV clr
theorem nrmB : (∀ {α : Type} [BEq α] [LawfulBEq α] {a b : α}, ((a == b) = true) = (a = b)) ∧ (∀ {α : Type} [BEq α] [LawfulBEq α] {a b : α}, ((a != b) = true) = ¬ (a = b)) ∧ (∀ {α : Type} {a b : α}, (a ≠ b) = ¬ (a = b)) ∧ (∀ {α : Type} [BEq α] [LawfulBEq α] {a b : α}, ((a != b) = false) = (a = b)) ∧
    (∀ {α : Type} [BEq α] [LawfulBEq α] {a b : α}, ((a == b) = false) = ¬ (a = b)) ∧ (∀ {p : Prop} [Decidable p], (decide p = true) = p) ∧ (∀ {p : Prop} [Decidable p], (decide p = false) = ¬ p) ∧ (∀ {b : Bool}, ((!b) = true) = (b = false)) ∧ (∀ {b : Bool}, ((!b) = false) = (b = true)) ∧
    (∀ {a b : Bool}, ((a || b) = true) = (a = true ∨ b = true)) ∧ (∀ {a b : Bool}, ((a && b) = true) = (a = true ∧ b = true)) ∧ (∀ {a b : Bool}, ((a || b) = false) = (a = false ∧ b = false)) ∧ (∀ {a b : Bool}, ((a && b) = false) = (a = false ∨ b = false)) := by
  refine ⟨fun {α} _ _ {a b} => propext beq_iff_eq, fun {α} _ _ {a b} => propext bne_iff_ne, fun {α} {a b} => rfl, fun {α} _ _ {a b} => propext bne_eq_false_iff_eq, fun {α} _ _ {a b} => propext beq_eq_false_iff_ne, by simp, by simp, by simp, by simp, by simp, by simp, by simp, by simp⟩

end Go.Vm
end

section
namespace Go.Vm
open Go Go.RowKit Go.Proofs
set_option maxRecDepth 100000
set_option linter.unusedSimpArgs false
set_option linter.unusedVariables false
set_option maxHeartbeats 4000000

/-- A literal of so many variables. -/
def knownF (v l : Int) : Bool := decide (2 ≤ l) && decide (IntKind.wrap .i64 (l.tdiv 2) ≤ v)
theorem cknown_call (gw : World) (gb : Nat) (v l : Int) : VCall Tryz.prog gw (gb) 276 [.one (.c (.int .i64 v)), .one (.c (.int .i64 l))] (.one (.c (.bool (knownF v l)))) [] := by
  refine vcall_of [.tmp 4] Tryz.func276 rfl rfl Tryz.ntmps276 rfl (by simp) ?_
  intro C hP hnt hgw hgb hfull
  refine vwp_seq_region rfl fun K hK => ?_
  simp (dsimp := false) only [push_cast, hP, hnt, hgw, hgb, sevalprocAttr]
  refine hK _ ?_; clear hK
  refine vwp_seq_regionG fun K hK => ?_
  simp (dsimp := false) only [push_cast, hP, hnt, hgw, hgb, sevalprocAttr]
  refine guardR_may (by simp (dsimp := false) only [push_cast, hP, hnt, hgw, hgb, sevalprocAttr, List.getElem?_cons_zero, List.getElem?_cons_succ]; rfl) ?_
  simp (dsimp := false) only [push_cast, hP, hnt, hgw, hgb, sevalprocAttr]
  refine guardR_may (by simp (dsimp := false) only [push_cast, hP, hnt, hgw, hgb, sevalprocAttr, List.getElem?_cons_zero, List.getElem?_cons_succ]; rfl) ?_
  simp (dsimp := false) only [push_cast, hP, hnt, hgw, hgb, sevalprocAttr]
  refine guardR_may (by simp (dsimp := false) only [push_cast, hP, hnt, hgw, hgb, sevalprocAttr, List.getElem?_cons_zero, List.getElem?_cons_succ]; rfl) ?_
  simp (dsimp := false) only [push_cast, hP, hnt, hgw, hgb, sevalprocAttr]
  refine guardR_may (by simp (dsimp := false) only [push_cast, hP, hnt, hgw, hgb, sevalprocAttr, List.getElem?_cons_zero, List.getElem?_cons_succ]; rfl) ?_
  simp (dsimp := false) only [push_cast, hP, hnt, hgw, hgb, sevalprocAttr]
  refine hK _ ?_; clear hK
  refine vwp_ret ?_
  refine ret_free (by simp (dsimp := false) only [push_cast, hP, hnt, hgw, hgb, sevalprocAttr]; rfl) (by simp (dsimp := false) only [push_cast, hP, hnt, hgw, hgb, sevalprocAttr]) ?_
  first | (simp only [pack, knownF, if_true, if_false, Bool.false_eq_true, reduceIte]; done) | (simp only [pack, knownF, if_true, if_false, ne_eq, not_true_eq_false, not_false_eq_true, true_or, or_true, or_self, ite_self, Bool.true_eq_false, Bool.false_eq_true, or_false, false_or]; done) | (subst_vars; simp only [pack, knownF, *, if_true, if_false, ne_eq, not_true_eq_false, not_false_eq_true, true_or, or_true, or_self, ite_self, Bool.true_eq_false, Bool.false_eq_true, or_false, false_or]; done) | (simp [pack, knownF] <;> omega)
def beforeF : Option Int → Int → Bool
  | none, _ => false
  | some q, l => decide (l ≤ q) || (IntKind.wrap .i64 (l.tdiv 2) == IntKind.wrap .i64 (q.tdiv 2))
def clauseG (v : Int) : Option Int → List Int → Int
  | _, [] => 0
  | p, l :: r => if (!knownF v l || beforeF p l) = true then 8 else clauseG v (some l) r
def clauseF (v : Int) (c : List Int) : Int := if v < 0 ∨ 4000 < v then 2 else clauseG v none c
def prevI (c : List Int) (i : Int) : Option Int := if i = 0 then none else some (atI c (i - 1))
theorem clauseG_next {v : Int} {c : List Int} {i r : Int} (h0 : 0 ≤ i) (h1 : i < (c.length : Int)) (h : clauseG v (prevI c i) (c.drop i.toNat) = r) (h2 : knownF v (atI c i) = true) (h3 : beforeF (prevI c i) (atI c i) = false) : clauseG v (prevI c (i + 1)) (c.drop (i + 1).toNat) = r := by
  rw [drop_atI h0 h1] at h
  unfold clauseG at h
  rw [h2, h3] at h
  have e : prevI c (i + 1) = some (atI c i) := by unfold prevI; rw [if_neg (by omega)]; congr 2; omega
  rw [e, show (i + 1).toNat = i.toNat + 1 by omega]
  simpa using h
theorem clauseG_stop {v : Int} {c : List Int} {i r : Int} (h0 : 0 ≤ i) (h1 : i < (c.length : Int)) (h : clauseG v (prevI c i) (c.drop i.toNat) = r) (h2 : (!knownF v (atI c i) || beforeF (prevI c i) (atI c i)) = true) : r = 8 := by
  rw [drop_atI h0 h1] at h
  unfold clauseG at h
  rw [if_pos h2] at h
  exact h.symm
theorem clauseG_end {v : Int} {c : List Int} {i r : Int} (h1 : ¬ i < (c.length : Int)) (h : clauseG v (prevI c i) (c.drop i.toNat) = r) : r = 0 := by
  rw [List.drop_eq_nil_of_le (by omega)] at h
  unfold clauseG at h
  exact h.symm
theorem wrap_pred {i n : Int} (h0 : 0 < i) (h1 : i < n) (hn : n ≤ 9223372036854775807) : IntKind.wrap .i64 (i - 1) = i - 1 := by
  rw [IntKind.wrap_i64]; omega
theorem cCheck_call (gw : World) (gb : Nat) (v : Int) (c : List Int) (hl : c.length ≤ 100000000) : VCall Tryz.prog gw (gb) 233 [.one (.c (.int .i64 v)), .one (.sl false c.length (c.map fun n => .c (.int .i64 n)))] (.one (.c (.int .i64 (clauseF v c)))) [] := by
  refine vcall_of [.tmp 4] Tryz.func233 rfl rfl Tryz.ntmps233 rfl (by simp) ?_
  intro C hP hnt hgw hgb hfull
  refine vwp_seq_region rfl fun K hK => ?_
  simp (dsimp := false) only [push_cast, hP, hnt, hgw, hgb, sevalprocAttr]
  refine hK _ ?_; clear hK
  refine vwp_seq fun K hK => ?_
  refine vwp_seq_regionG fun K hK => ?_
  simp (dsimp := false) only [push_cast, hP, hnt, hgw, hgb, sevalprocAttr]
  refine guardR_may (by simp (dsimp := false) only [push_cast, hP, hnt, hgw, hgb, sevalprocAttr, List.getElem?_cons_zero, List.getElem?_cons_succ]; rfl) ?_
  simp (dsimp := false) only [push_cast, hP, hnt, hgw, hgb, sevalprocAttr]
  refine guardR_may (by simp (dsimp := false) only [push_cast, hP, hnt, hgw, hgb, sevalprocAttr, List.getElem?_cons_zero, List.getElem?_cons_succ]; rfl) ?_
  simp (dsimp := false) only [push_cast, hP, hnt, hgw, hgb, sevalprocAttr]
  refine hK _ ?_; clear hK
  refine vwp_cond (b := _) (by simp (dsimp := false) only [push_cast, hP, hnt, hgw, hgb, sevalprocAttr]; rfl) (fun rb0 => ?_) (fun rb0 => ?_)
  · have hb0 := rb0
    try simp only [nrmB] at hb0
    refine vwp_seq_region rfl fun K hK => ?_
    simp (dsimp := false) only [push_cast, hP, hnt, hgw, hgb, sevalprocAttr]
    refine hK _ ?_; clear hK
    refine vwp_ret ?_
    refine ret_free (by simp (dsimp := false) only [push_cast, hP, hnt, hgw, hgb, sevalprocAttr]; rfl) (by simp (dsimp := false) only [push_cast, hP, hnt, hgw, hgb, sevalprocAttr]) ?_
    simp only [pack, clauseF]; rw [if_pos (by omega)]
  · have hb0 := rb0
    try simp only [nrmB] at hb0
    refine vwp_skip ?_
    apply_assumption
    refine vwp_seq fun K hK => ?_
    refine vwp_seq_region rfl fun K hK => ?_
    simp (dsimp := false) only [push_cast, hP, hnt, hgw, hgb, sevalprocAttr]
    refine hK _ ?_; clear hK
    refine vwp_block ?_
    refine vwp_loop (fun m σ => ∃ (i : Int), m = (c.length - i).toNat ∧ ((0 ≤ i) ∧ (i ≤ c.length) ∧ (clauseG v (prevI c i) (c.drop i.toNat) = clauseG v none c)) ∧ σ = St.of [(0, .one (.c (.int .i64 v))), (1, .one (.sl false c.length (c.map fun n => .c (.int .i64 n)))), (13, .one (.sl false c.length (c.map fun n => .c (.int .i64 n)))), (14, .one (.c (.int .i64 c.length))), (15, .one (.c (.int .i64 i)))] [] []) _ ⟨_, ?_, 0, rfl, ?_, rfl⟩ ?_
    · refine wk_conv [] [] (by simp) (by simp) (by decide) ?_ ?_
      · refine hf_cons (by simp (dsimp := false) only [push_cast, ↓reduceIte, Nat.reduceEqDiff, Nat.reduceAdd, reduceCtorEq] <;> rfl) (by exact ConvV.self rfl) ?_
        refine hf_cons (by simp (dsimp := false) only [push_cast, ↓reduceIte, Nat.reduceEqDiff, Nat.reduceAdd, reduceCtorEq] <;> rfl) (by exact ConvV.self (by simp only [push_cast])) ?_
        refine hf_cons (by simp (dsimp := false) only [push_cast, ↓reduceIte, Nat.reduceEqDiff, Nat.reduceAdd, reduceCtorEq] <;> rfl) (by exact ConvV.self (by simp only [push_cast])) ?_
        refine hf_cons (by simp (dsimp := false) only [push_cast, ↓reduceIte, Nat.reduceEqDiff, Nat.reduceAdd, reduceCtorEq] <;> rfl) (by exact ConvV.self rfl) ?_
        refine hf_cons (by simp (dsimp := false) only [push_cast, ↓reduceIte, Nat.reduceEqDiff, Nat.reduceAdd, reduceCtorEq] <;> rfl) (by exact ConvV.self rfl) ?_
        exact hf_nil
      · exact hh_nil
    · exact ⟨by omega, by omega, rfl⟩
    · rintro m τ ⟨i, hm, ⟨hi0, hi1, hi2⟩, rfl⟩ K hL0
      have hw := fun h : i < (c.length : Int) => wrap_next hi0 h (by omega)
      have hd := fun h : i < (c.length : Int) => dropI_map (fun n => PC.c (Value.int .i64 n)) hi0 h
      refine vwp_seq_region rfl fun K hK => ?_
      simp (dsimp := false) only [push_cast, hP, hnt, hgw, hgb, sevalprocAttr, hi0]
      refine hK _ ?_; clear hK
      refine vwp_seq fun K hK => ?_
      refine vwp_cond (b := _) (by simp (dsimp := false) only [push_cast, hP, hnt, hgw, hgb, sevalprocAttr, hi0]; rfl) (fun rb1 => ?_) (fun rb1 => ?_)
      · have hb1 := rb1
        try simp only [nrmB] at hb1
        have hw := hw hb1
        have hd := hd hb1
        refine vwp_skip ?_
        apply_assumption
        refine vwp_seq fun K hK => ?_
        refine vwp_block ?_
        refine vwp_seq_region rfl fun K hK => ?_
        simp (dsimp := false) only [push_cast, hP, hnt, hgw, hgb, sevalprocAttr, hi0, hw, hd, hb1]
        refine hK _ ?_; clear hK
        have hcs : knownF v (atI c i) = false ∨ (knownF v (atI c i) = true ∧ i = 0) ∨ (knownF v (atI c i) = true ∧ 0 < i ∧ atI c i ≤ atI c (i - 1)) ∨ (knownF v (atI c i) = true ∧ 0 < i ∧ ¬ atI c i ≤ atI c (i - 1)) := by cases knownF v (atI c i) <;> simp <;> omega
        rcases hcs with hk | ⟨hk, hz⟩ | ⟨hk, hz, hle⟩ | ⟨hk, hz, hle⟩
        · skip
          refine vwp_seq_regionG fun K hK => ?_
          simp (dsimp := false) only [push_cast, hP, hnt, hgw, hgb, sevalprocAttr, hi0, hw, hd, hb1, hk]
          refine .inl (callE_intro (cknown_call gw gb _ _) (.inl ⟨rfl, rfl⟩) ?_)
          simp (dsimp := false) only [push_cast, hP, hnt, hgw, hgb, sevalprocAttr, hi0, hw, hd, hb1, hk]
          iterate 22 (refine guardR_skip (by simp (dsimp := false) only [push_cast, hP, hnt, hgw, hgb, sevalprocAttr, hi0, hw, hd, hb1, hk, List.getElem?_cons_zero, List.getElem?_cons_succ] <;> rfl) (by simp) ⟨by first | trivial | (simp (dsimp := false) only [push_cast, hP, hnt, hgw, hgb, sevalprocAttr, hi0, hw, hd, hb1, hk]; done), ?_⟩; simp (dsimp := false) only [push_cast, hP, hnt, hgw, hgb, sevalprocAttr, hi0, hw, hd, hb1, hk])
          refine hK _ ?_; clear hK
          refine vwp_cond (b := true) (by simp (dsimp := false) only [push_cast, hP, hnt, hgw, hgb, sevalprocAttr, hi0, hw, hd, hb1, hk] <;> rfl) (fun hx => ?_) (fun hx => by cases hx)
          refine vwp_seq_region rfl fun K hK => ?_
          simp (dsimp := false) only [push_cast, hP, hnt, hgw, hgb, sevalprocAttr, hi0, hw, hd, hb1, hk]
          refine hK _ ?_; clear hK
          refine vwp_ret ?_
          refine ret_free (by simp (dsimp := false) only [push_cast, hP, hnt, hgw, hgb, sevalprocAttr, hi0, hw, hd, hb1, hk]; rfl) (by simp (dsimp := false) only [push_cast, hP, hnt, hgw, hgb, sevalprocAttr, hi0, hw, hd, hb1, hk]) ?_
          simp only [pack, clauseF]; rw [if_neg (by omega), clauseG_stop hi0 hb1 hi2 (by rw [hk]; rfl)]
        · have hgt : decide (0 < i) = false := by simp; omega
          refine vwp_seq_regionG fun K hK => ?_
          simp (dsimp := false) only [push_cast, hP, hnt, hgw, hgb, sevalprocAttr, hi0, hw, hd, hb1, hk, hgt]
          refine .inl (callE_intro (cknown_call gw gb _ _) (.inl ⟨rfl, rfl⟩) ?_)
          simp (dsimp := false) only [push_cast, hP, hnt, hgw, hgb, sevalprocAttr, hi0, hw, hd, hb1, hk, hgt]
          iterate 3 (refine guardR_run (by simp (dsimp := false) only [push_cast, hP, hnt, hgw, hgb, sevalprocAttr, hi0, hw, hd, hb1, hk, hgt, List.getElem?_cons_zero, List.getElem?_cons_succ] <;> rfl) ?_; simp (dsimp := false) only [push_cast, hP, hnt, hgw, hgb, sevalprocAttr, hi0, hw, hd, hb1, hk, hgt])
          iterate 18 (refine guardR_skip (by simp (dsimp := false) only [push_cast, hP, hnt, hgw, hgb, sevalprocAttr, hi0, hw, hd, hb1, hk, hgt, List.getElem?_cons_zero, List.getElem?_cons_succ] <;> rfl) (by simp) ⟨by first | trivial | (simp (dsimp := false) only [push_cast, hP, hnt, hgw, hgb, sevalprocAttr, hi0, hw, hd, hb1, hk, hgt]; done), ?_⟩; simp (dsimp := false) only [push_cast, hP, hnt, hgw, hgb, sevalprocAttr, hi0, hw, hd, hb1, hk, hgt])
          refine guardR_run (by simp (dsimp := false) only [push_cast, hP, hnt, hgw, hgb, sevalprocAttr, hi0, hw, hd, hb1, hk, hgt, List.getElem?_cons_zero, List.getElem?_cons_succ] <;> rfl) ?_; simp (dsimp := false) only [push_cast, hP, hnt, hgw, hgb, sevalprocAttr, hi0, hw, hd, hb1, hk, hgt]
          refine hK _ ?_; clear hK
          refine vwp_cond (b := false) (by simp (dsimp := false) only [push_cast, hP, hnt, hgw, hgb, sevalprocAttr, hi0, hw, hd, hb1, hk, hgt] <;> rfl) (fun hx => by cases hx) (fun hx => ?_)
          refine vwp_skip ?_
          apply_assumption
          refine vwp_region rfl ?_
          simp (dsimp := false) only [push_cast, hP, hnt, hgw, hgb, sevalprocAttr, hi0, hw, hd, hb1, hk, hgt]
          refine hL0 _ _ _ ?_ ?_ ⟨i + 1, rfl, ?_, rfl⟩
          · omega
          · refine wk_conv [] [] (by simp) (by simp) (by decide) ?_ ?_
            · refine hf_cons (by simp (dsimp := false) only [push_cast, ↓reduceIte, Nat.reduceEqDiff, Nat.reduceAdd, reduceCtorEq, hi0, hw, hd, hb1, hk, hgt] <;> rfl) (by exact ConvV.self rfl) ?_
              refine hf_cons (by simp (dsimp := false) only [push_cast, ↓reduceIte, Nat.reduceEqDiff, Nat.reduceAdd, reduceCtorEq, hi0, hw, hd, hb1, hk, hgt] <;> rfl) (by exact ConvV.self (by simp only [push_cast])) ?_
              refine hf_cons (by simp (dsimp := false) only [push_cast, ↓reduceIte, Nat.reduceEqDiff, Nat.reduceAdd, reduceCtorEq, hi0, hw, hd, hb1, hk, hgt] <;> rfl) (by exact ConvV.self (by simp only [push_cast])) ?_
              refine hf_cons (by simp (dsimp := false) only [push_cast, ↓reduceIte, Nat.reduceEqDiff, Nat.reduceAdd, reduceCtorEq, hi0, hw, hd, hb1, hk, hgt] <;> rfl) (by exact ConvV.self rfl) ?_
              refine hf_cons (by simp (dsimp := false) only [push_cast, ↓reduceIte, Nat.reduceEqDiff, Nat.reduceAdd, reduceCtorEq, hi0, hw, hd, hb1, hk, hgt] <;> rfl) (by exact ConvV.self rfl) ?_
              exact hf_nil
            · exact hh_nil
          · exact ⟨by omega, by omega, clauseG_next hi0 hb1 hi2 hk (by unfold prevI; rw [if_pos hz]; rfl)⟩
        · have hgt : decide (0 < i) = true := by simp; omega
          have hwp := wrap_pred hz hb1 (by omega)
          have hp0 : 0 ≤ i - 1 := by omega
          have hp1 : i - 1 < (c.length : Int) := by omega
          have hdp := dropI_map (fun n => PC.c (Value.int .i64 n)) hp0 hp1
          have hle2 : decide (atI c i ≤ atI c (i - 1)) = true := by simp [hle]
          refine vwp_seq_regionG fun K hK => ?_
          simp (dsimp := false) only [push_cast, hP, hnt, hgw, hgb, sevalprocAttr, hi0, hw, hd, hb1, hk, hgt, hwp, hp0, hp1, hdp, hle2]
          refine .inl (callE_intro (cknown_call gw gb _ _) (.inl ⟨rfl, rfl⟩) ?_)
          simp (dsimp := false) only [push_cast, hP, hnt, hgw, hgb, sevalprocAttr, hi0, hw, hd, hb1, hk, hgt, hwp, hp0, hp1, hdp, hle2]
          iterate 11 (refine guardR_run (by simp (dsimp := false) only [push_cast, hP, hnt, hgw, hgb, sevalprocAttr, hi0, hw, hd, hb1, hk, hgt, hwp, hp0, hp1, hdp, hle2, List.getElem?_cons_zero, List.getElem?_cons_succ] <;> rfl) ?_; simp (dsimp := false) only [push_cast, hP, hnt, hgw, hgb, sevalprocAttr, hi0, hw, hd, hb1, hk, hgt, hwp, hp0, hp1, hdp, hle2])
          iterate 9 (refine guardR_skip (by simp (dsimp := false) only [push_cast, hP, hnt, hgw, hgb, sevalprocAttr, hi0, hw, hd, hb1, hk, hgt, hwp, hp0, hp1, hdp, hle2, List.getElem?_cons_zero, List.getElem?_cons_succ] <;> rfl) (by simp) ⟨by first | trivial | (simp (dsimp := false) only [push_cast, hP, hnt, hgw, hgb, sevalprocAttr, hi0, hw, hd, hb1, hk, hgt, hwp, hp0, hp1, hdp, hle2]; done), ?_⟩; simp (dsimp := false) only [push_cast, hP, hnt, hgw, hgb, sevalprocAttr, hi0, hw, hd, hb1, hk, hgt, hwp, hp0, hp1, hdp, hle2])
          iterate 2 (refine guardR_run (by simp (dsimp := false) only [push_cast, hP, hnt, hgw, hgb, sevalprocAttr, hi0, hw, hd, hb1, hk, hgt, hwp, hp0, hp1, hdp, hle2, List.getElem?_cons_zero, List.getElem?_cons_succ] <;> rfl) ?_; simp (dsimp := false) only [push_cast, hP, hnt, hgw, hgb, sevalprocAttr, hi0, hw, hd, hb1, hk, hgt, hwp, hp0, hp1, hdp, hle2])
          refine hK _ ?_; clear hK
          refine vwp_cond (b := true) (by simp (dsimp := false) only [push_cast, hP, hnt, hgw, hgb, sevalprocAttr, hi0, hw, hd, hb1, hk, hgt, hwp, hp0, hp1, hdp, hle2] <;> rfl) (fun hx => ?_) (fun hx => by cases hx)
          refine vwp_seq_region rfl fun K hK => ?_
          simp (dsimp := false) only [push_cast, hP, hnt, hgw, hgb, sevalprocAttr, hi0, hw, hd, hb1, hk, hgt, hwp, hp0, hp1, hdp, hle2]
          refine hK _ ?_; clear hK
          refine vwp_ret ?_
          refine ret_free (by simp (dsimp := false) only [push_cast, hP, hnt, hgw, hgb, sevalprocAttr, hi0, hw, hd, hb1, hk, hgt, hwp, hp0, hp1, hdp, hle2]; rfl) (by simp (dsimp := false) only [push_cast, hP, hnt, hgw, hgb, sevalprocAttr, hi0, hw, hd, hb1, hk, hgt, hwp, hp0, hp1, hdp, hle2]) ?_
          simp only [pack, clauseF]; rw [if_neg (by omega), clauseG_stop hi0 hb1 hi2 (by unfold prevI beforeF; rw [if_neg (by omega), hk]; simp [hle])]
        · have hgt : decide (0 < i) = true := by simp; omega
          have hwp := wrap_pred hz hb1 (by omega)
          have hp0 : 0 ≤ i - 1 := by omega
          have hp1 : i - 1 < (c.length : Int) := by omega
          have hdp := dropI_map (fun n => PC.c (Value.int .i64 n)) hp0 hp1
          have hle2 : decide (atI c i ≤ atI c (i - 1)) = false := by simp; omega
          refine vwp_seq_regionG fun K hK => ?_
          simp (dsimp := false) only [push_cast, hP, hnt, hgw, hgb, sevalprocAttr, hi0, hw, hd, hb1, hk, hgt, hwp, hp0, hp1, hdp, hle2]
          refine .inl (callE_intro (cknown_call gw gb _ _) (.inl ⟨rfl, rfl⟩) ?_)
          simp (dsimp := false) only [push_cast, hP, hnt, hgw, hgb, sevalprocAttr, hi0, hw, hd, hb1, hk, hgt, hwp, hp0, hp1, hdp, hle2]
          iterate 22 (refine guardR_run (by simp (dsimp := false) only [push_cast, hP, hnt, hgw, hgb, sevalprocAttr, hi0, hw, hd, hb1, hk, hgt, hwp, hp0, hp1, hdp, hle2, List.getElem?_cons_zero, List.getElem?_cons_succ] <;> rfl) ?_; simp (dsimp := false) only [push_cast, hP, hnt, hgw, hgb, sevalprocAttr, hi0, hw, hd, hb1, hk, hgt, hwp, hp0, hp1, hdp, hle2])
          refine hK _ ?_; clear hK
          refine vwp_cond (b := _) (by simp (dsimp := false) only [push_cast, hP, hnt, hgw, hgb, sevalprocAttr, hi0, hw, hd, hb1, hk, hgt, hwp, hp0, hp1, hdp, hle2]; rfl) (fun rb2 => ?_) (fun rb2 => ?_)
          · have hb2 := rb2
            try simp only [nrmB] at hb2
            refine vwp_seq_region rfl fun K hK => ?_
            simp (dsimp := false) only [push_cast, hP, hnt, hgw, hgb, sevalprocAttr, hi0, hw, hd, hb1, hk, hgt, hwp, hp0, hp1, hdp, hle2]
            refine hK _ ?_; clear hK
            refine vwp_ret ?_
            refine ret_free (by simp (dsimp := false) only [push_cast, hP, hnt, hgw, hgb, sevalprocAttr, hi0, hw, hd, hb1, hk, hgt, hwp, hp0, hp1, hdp, hle2]; rfl) (by simp (dsimp := false) only [push_cast, hP, hnt, hgw, hgb, sevalprocAttr, hi0, hw, hd, hb1, hk, hgt, hwp, hp0, hp1, hdp, hle2]) ?_
            simp only [pack, clauseF]; rw [if_neg (by omega), clauseG_stop hi0 hb1 hi2 (by unfold prevI beforeF; rw [if_neg (by omega), hk]; simp [hb2])]
          · have hb2 := rb2
            try simp only [nrmB] at hb2
            refine vwp_skip ?_
            apply_assumption
            refine vwp_region rfl ?_
            simp (dsimp := false) only [push_cast, hP, hnt, hgw, hgb, sevalprocAttr, hi0, hw, hd, hb1, hk, hgt, hwp, hp0, hp1, hdp, hle2]
            refine hL0 _ _ _ ?_ ?_ ⟨i + 1, rfl, ?_, rfl⟩
            · omega
            · refine wk_conv [] [] (by simp) (by simp) (by decide) ?_ ?_
              · refine hf_cons (by simp (dsimp := false) only [push_cast, ↓reduceIte, Nat.reduceEqDiff, Nat.reduceAdd, reduceCtorEq, hi0, hw, hd, hb1, hk, hgt, hwp, hp0, hp1, hdp, hle2] <;> rfl) (by exact ConvV.self rfl) ?_
                refine hf_cons (by simp (dsimp := false) only [push_cast, ↓reduceIte, Nat.reduceEqDiff, Nat.reduceAdd, reduceCtorEq, hi0, hw, hd, hb1, hk, hgt, hwp, hp0, hp1, hdp, hle2] <;> rfl) (by exact ConvV.self (by simp only [push_cast])) ?_
                refine hf_cons (by simp (dsimp := false) only [push_cast, ↓reduceIte, Nat.reduceEqDiff, Nat.reduceAdd, reduceCtorEq, hi0, hw, hd, hb1, hk, hgt, hwp, hp0, hp1, hdp, hle2] <;> rfl) (by exact ConvV.self (by simp only [push_cast])) ?_
                refine hf_cons (by simp (dsimp := false) only [push_cast, ↓reduceIte, Nat.reduceEqDiff, Nat.reduceAdd, reduceCtorEq, hi0, hw, hd, hb1, hk, hgt, hwp, hp0, hp1, hdp, hle2] <;> rfl) (by exact ConvV.self rfl) ?_
                refine hf_cons (by simp (dsimp := false) only [push_cast, ↓reduceIte, Nat.reduceEqDiff, Nat.reduceAdd, reduceCtorEq, hi0, hw, hd, hb1, hk, hgt, hwp, hp0, hp1, hdp, hle2] <;> rfl) (by exact ConvV.self rfl) ?_
                exact hf_nil
              · exact hh_nil
            · exact ⟨by omega, by omega, clauseG_next hi0 hb1 hi2 hk (by unfold prevI beforeF; rw [if_neg (by omega)]; simp only [hle2, Bool.false_or]; simpa using hb2)⟩
      · have hb1 := rb1
        try simp only [nrmB] at hb1
        refine vwp_exit ?_
        simp only [thenQ, blockQ, Nat.reduceEqDiff, reduceIte]
        apply_assumption
        refine vwp_seq_region rfl fun K hK => ?_
        simp (dsimp := false) only [push_cast, hP, hnt, hgw, hgb, sevalprocAttr, hi0]
        refine hK _ ?_; clear hK
        refine vwp_ret ?_
        refine ret_free (by simp (dsimp := false) only [push_cast, hP, hnt, hgw, hgb, sevalprocAttr, hi0]; rfl) (by simp (dsimp := false) only [push_cast, hP, hnt, hgw, hgb, sevalprocAttr, hi0]) ?_
        simp only [pack, clauseF]; rw [if_neg (by omega), clauseG_end hb1 hi2]
end Go.Vm
end
