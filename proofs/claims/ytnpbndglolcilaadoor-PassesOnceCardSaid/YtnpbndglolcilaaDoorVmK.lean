/-
  Abstract states over the model's worlds, and that a step of them is a step of the program: part K of a framework. Conditions: each theorem's own premises. By an AI agent.
-/
import Derived.Test.YtnpbndglolcilaaDoorVmJ
namespace Go.Vm
open Go Go.RowKit

/-! ### Names changed, tags taken off, what is borrowed -/
mutual
def PC.ren (s : Nat) : PC → PC
  | .c v => .c v
  | .ifc => .ifc
  | .sl t n xs => .sl t n (PC.rens s xs)
  | .at t ys => .at t (PC.rens s ys)
  | .loc i off => .loc (s, i.2) off
  | .own i => .own (s, i.2)
  | .fn f caps => .fn f (PC.rens s caps)
def PC.rens (s : Nat) : List PC → List PC
  | [] => []
  | p :: ps => p.ren s :: PC.rens s ps
end
mutual
def PV.ren (s : Nat) : PV → PV
  | .one p => .one (p.ren s)
  | .agg ps => .agg (PC.rens s ps)
  | .tup vs => .tup (PV.rens s vs)
  | .may b p => .may b (p.ren s)
def PV.rens (s : Nat) : List PV → List PV
  | [] => []
  | p :: ps => p.ren s :: PV.rens s ps
end
def Blk.ren (s : Nat) : Blk → Blk
  | .box t cs => .box t (PC.rens s cs)
  | .arr t z n cs => .arr t z n (PC.rens s cs)

mutual
def PC.weak : PC → PC
  | .sl _ n xs => .sl false n (PC.weaks xs)
  | .at _ ys => .at false (PC.weaks ys)
  | .fn f caps => .fn f (PC.weaks caps)
  | p => p
def PC.weaks : List PC → List PC
  | [] => []
  | p :: ps => p.weak :: PC.weaks ps
end
mutual
/-- No name of a block of the call's own stands in it. -/
def PC.free : PC → Bool
  | .c _ => true
  | .ifc => true
  | .sl _ _ xs => PC.frees xs
  | .at _ ys => PC.frees ys
  | .loc _ _ => false
  | .own _ => false
  | .fn _ caps => PC.frees caps
def PC.frees : List PC → Bool
  | [] => true
  | p :: ps => p.free && PC.frees ps
end
mutual
def PV.free : PV → Bool
  | .one p => p.free
  | .agg ps => PC.frees ps
  | .tup _ => false
  | .may _ _ => false
def PV.frees : List PV → Bool
  | [] => true
  | p :: ps => p.free && PV.frees ps
end
mutual
/-- All that it only reads is new. -/
def PC.strict : PC → Bool
  | .c _ => true
  | .ifc => true
  | .sl t _ xs => t && PC.stricts xs
  | .at t ys => t && PC.stricts ys
  | .loc _ _ => true
  | .own _ => true
  | .fn _ caps => PC.stricts caps
def PC.stricts : List PC → Bool
  | [] => true
  | p :: ps => p.strict && PC.stricts ps
end
mutual
def PV.strict : PV → Bool
  | .one p => p.strict
  | .agg ps => PC.stricts ps
  | .tup vs => PV.stricts vs
  | .may _ _ => false
def PV.stricts : List PV → Bool
  | [] => true
  | p :: ps => p.strict && PV.stricts ps
end

/-- As a callee may see it: rows of the call's own as rows that are read. -/
def clo (H : Id → Option Blk) : Nat → PC → PC
  | _ + 1, .c (.slice none 0 0) => .sl false 0 []
  | k + 1, .own i =>
    match H i with
    | some (.arr _ _ n cs) => .sl false n (cs.map (clo H k))
    | _ => .own i
  | _, p => p.weak

def cloV (H : Id → Option Blk) (k : Nat) : PV → PV
  | .one p => .one (clo H k p)
  | .agg ps => .agg (ps.map (clo H k))
  | .tup vs => .tup vs
  | .may b p => .may b p

section
variable {φ φ' : Id → Option Value} {w w' : World} {F F' : Bool → Nat → Prop}

mutual
theorem free_rep (hF : ∀ t g, F t g → F' t g) : ∀ (p : PC) (x : Value), p.free = true → rep φ w F p x → rep φ' w F' p x
  | .c v, x, _, h => by simpa only [rep] using h
  | .ifc, x, _, h => by simpa only [rep] using h
  | .sl t n xs, x, hf, h => by
    simp only [rep, PC.free] at h hf ⊢
    obtain ⟨A, cap, hx, hn, h⟩ := h
    refine ⟨A, cap, hx, hn, ?_⟩
    rcases h with h | ⟨ad, ha, hg, h⟩
    · exact .inl h
    · exact .inr ⟨ad, ha, hF _ _ hg, free_repAt hF xs ad hf h⟩
  | .at t ys, x, hf, h => by
    simp only [rep, PC.free] at h hf ⊢
    obtain ⟨ad, hx, hg, h⟩ := h
    exact ⟨ad, hx, hF _ _ hg, free_repAt hF ys ad hf h⟩
  | .loc i off, x, hf, h => by simp [PC.free] at hf
  | .own i, x, hf, h => by simp [PC.free] at hf
  | .fn f caps, x, hf, h => by
    simp only [rep, PC.free] at h hf ⊢
    obtain ⟨vs, hx, h⟩ := h
    exact ⟨vs, hx, free_reps hF caps _ hf h⟩
theorem free_repAt (hF : ∀ t g, F t g → F' t g) : ∀ (ps : List PC) (ad : Addr), PC.frees ps = true → repAt φ w F ad ps → repAt φ' w F' ad ps
  | [], ad, _, _ => by simp [repAt]
  | p :: ps, ad, hf, h => by
    simp only [repAt, PC.frees, Bool.and_eq_true] at h hf ⊢
    obtain ⟨⟨v, hv, hr⟩, h⟩ := h
    exact ⟨⟨v, hv, free_rep hF p v hf.1 hr⟩, free_repAt hF ps _ hf.2 h⟩
theorem free_reps (hF : ∀ t g, F t g → F' t g) : ∀ (ps : List PC) (vs : List Value), PC.frees ps = true → reps φ w F ps vs → reps φ' w F' ps vs
  | [], vs, _, h => by simpa only [reps] using h
  | p :: ps, vs, hf, h => by
    simp only [reps, PC.frees, Bool.and_eq_true] at h hf ⊢
    obtain ⟨v, vs', he, hr, h⟩ := h
    exact ⟨v, vs', he, free_rep hF p v hf.1 hr, free_reps hF ps vs' hf.2 h⟩
end
mutual
theorem free_repV (hF : ∀ t g, F t g → F' t g) : ∀ (p : PV) (x : Value), p.free = true → repV φ w F p x → repV φ' w F' p x
  | .one p, x, hf, h => by simp only [repV, PV.free] at h hf ⊢; exact free_rep hF p x hf h
  | .agg ps, x, hf, h => by
    simp only [repV, PV.free] at h hf ⊢
    obtain ⟨vs, hx, h⟩ := h
    exact ⟨vs, hx, free_reps hF ps _ hf h⟩
  | .tup vs, x, hf, h => by simp [PV.free] at hf
  | .may b p, x, hf, h => by simp [PV.free] at hf
theorem free_repVs (hF : ∀ t g, F t g → F' t g) : ∀ (ps : List PV) (xs : List Value), PV.frees ps = true → repVs φ w F ps xs → repVs φ' w F' ps xs
  | [], xs, _, h => by simpa only [repVs] using h
  | p :: ps, xs, hf, h => by
    simp only [repVs, PV.frees, Bool.and_eq_true] at h hf ⊢
    obtain ⟨v, vs', he, hr, h⟩ := h
    exact ⟨v, vs', he, free_repV hF p v hf.1 hr, free_repVs hF ps vs' hf.2 h⟩
end

mutual
theorem strict_rep (hF : ∀ g, F true g → F' true g) : ∀ (p : PC) (x : Value), p.strict = true → rep φ w F p x → rep φ w F' p x
  | .c v, x, _, h => by simpa only [rep] using h
  | .ifc, x, _, h => by simpa only [rep] using h
  | .sl t n xs, x, hf, h => by
    simp only [rep, PC.strict, Bool.and_eq_true] at h hf ⊢
    obtain ⟨rfl, hf⟩ := hf
    obtain ⟨A, cap, hx, hn, h⟩ := h
    refine ⟨A, cap, hx, hn, ?_⟩
    rcases h with h | ⟨ad, ha, hg, h⟩
    · exact .inl h
    · exact .inr ⟨ad, ha, hF _ hg, strict_repAt hF xs ad hf h⟩
  | .at t ys, x, hf, h => by
    simp only [rep, PC.strict, Bool.and_eq_true] at h hf ⊢
    obtain ⟨rfl, hf⟩ := hf
    obtain ⟨ad, hx, hg, h⟩ := h
    exact ⟨ad, hx, hF _ hg, strict_repAt hF ys ad hf h⟩
  | .loc i off, x, _, h => by simpa only [rep] using h
  | .own i, x, _, h => by simpa only [rep] using h
  | .fn f caps, x, hf, h => by
    simp only [rep, PC.strict] at h hf ⊢
    obtain ⟨vs, hx, h⟩ := h
    exact ⟨vs, hx, strict_reps hF caps _ hf h⟩
theorem strict_repAt (hF : ∀ g, F true g → F' true g) : ∀ (ps : List PC) (ad : Addr), PC.stricts ps = true → repAt φ w F ad ps → repAt φ w F' ad ps
  | [], ad, _, _ => by simp [repAt]
  | p :: ps, ad, hf, h => by
    simp only [repAt, PC.stricts, Bool.and_eq_true] at h hf ⊢
    obtain ⟨⟨v, hv, hr⟩, h⟩ := h
    exact ⟨⟨v, hv, strict_rep hF p v hf.1 hr⟩, strict_repAt hF ps _ hf.2 h⟩
theorem strict_reps (hF : ∀ g, F true g → F' true g) : ∀ (ps : List PC) (vs : List Value), PC.stricts ps = true → reps φ w F ps vs → reps φ w F' ps vs
  | [], vs, _, h => by simpa only [reps] using h
  | p :: ps, vs, hf, h => by
    simp only [reps, PC.stricts, Bool.and_eq_true] at h hf ⊢
    obtain ⟨v, vs', he, hr, h⟩ := h
    exact ⟨v, vs', he, strict_rep hF p v hf.1 hr, strict_reps hF ps vs' hf.2 h⟩
end
mutual
theorem strict_repV (hF : ∀ g, F true g → F' true g) : ∀ (p : PV) (x : Value), p.strict = true → repV φ w F p x → repV φ w F' p x
  | .one p, x, hf, h => by simp only [repV, PV.strict] at h hf ⊢; exact strict_rep hF p x hf h
  | .agg ps, x, hf, h => by
    simp only [repV, PV.strict] at h hf ⊢
    obtain ⟨vs, hx, h⟩ := h
    exact ⟨vs, hx, strict_reps hF ps _ hf h⟩
  | .tup vs, x, hf, h => by
    simp only [repV, PV.strict] at h hf ⊢
    obtain ⟨xs, hx, h⟩ := h
    exact ⟨xs, hx, strict_repVs hF vs _ hf h⟩
  | .may b p, x, hf, h => by simp [PV.strict] at hf
theorem strict_repVs (hF : ∀ g, F true g → F' true g) : ∀ (ps : List PV) (xs : List Value), PV.stricts ps = true → repVs φ w F ps xs → repVs φ w F' ps xs
  | [], xs, _, h => by simpa only [repVs] using h
  | p :: ps, xs, hf, h => by
    simp only [repVs, PV.stricts, Bool.and_eq_true] at h hf ⊢
    obtain ⟨v, vs', he, hr, h⟩ := h
    exact ⟨v, vs', he, strict_repV hF p v hf.1 hr, strict_repVs hF ps vs' hf.2 h⟩
end

mutual
theorem weak_rep (hF : ∀ t g, F t g → F' false g) : ∀ (p : PC) (x : Value), rep φ w F p x → rep φ w F' p.weak x
  | .c v, x, h => by simpa only [rep, PC.weak] using h
  | .ifc, x, h => by simpa only [rep, PC.weak] using h
  | .sl t n xs, x, h => by
    simp only [rep, PC.weak] at h ⊢
    obtain ⟨A, cap, hx, hn, h⟩ := h
    refine ⟨A, cap, hx, hn, ?_⟩
    rcases h with ⟨h, rfl⟩ | ⟨ad, ha, hg, h⟩
    · exact .inl ⟨h, by simp [PC.weaks]⟩
    · exact .inr ⟨ad, ha, hF _ _ hg, weak_repAt hF xs ad h⟩
  | .at t ys, x, h => by
    simp only [rep, PC.weak] at h ⊢
    obtain ⟨ad, hx, hg, h⟩ := h
    exact ⟨ad, hx, hF _ _ hg, weak_repAt hF ys ad h⟩
  | .loc i off, x, h => by simpa only [rep, PC.weak] using h
  | .own i, x, h => by simpa only [rep, PC.weak] using h
  | .fn f caps, x, h => by
    simp only [rep, PC.weak] at h ⊢
    obtain ⟨vs, hx, h⟩ := h
    exact ⟨vs, hx, weak_reps hF caps _ h⟩
theorem weak_repAt (hF : ∀ t g, F t g → F' false g) : ∀ (ps : List PC) (ad : Addr), repAt φ w F ad ps → repAt φ w F' ad (PC.weaks ps)
  | [], ad, _ => by simp [repAt, PC.weaks]
  | p :: ps, ad, h => by
    simp only [repAt, PC.weaks] at h ⊢
    obtain ⟨⟨v, hv, hr⟩, h⟩ := h
    exact ⟨⟨v, hv, weak_rep hF p v hr⟩, weak_repAt hF ps _ h⟩
theorem weak_reps (hF : ∀ t g, F t g → F' false g) : ∀ (ps : List PC) (vs : List Value), reps φ w F ps vs → reps φ w F' (PC.weaks ps) vs
  | [], vs, h => by simpa only [reps, PC.weaks] using h
  | p :: ps, vs, h => by
    simp only [reps, PC.weaks] at h ⊢
    obtain ⟨v, vs', he, hr, h⟩ := h
    exact ⟨v, vs', he, weak_rep hF p v hr, weak_reps hF ps vs' h⟩
end

mutual
theorem ren_rep {s : Nat} (hφ : ∀ j u, φ (0, j) = some u → φ' (s, j) = some u) (h0 : ∀ i, φ i ≠ none → i.1 = 0) : ∀ (p : PC) (x : Value), rep φ w F p x → rep φ' w F (p.ren s) x
  | .c v, x, h => by simpa only [rep, PC.ren] using h
  | .ifc, x, h => by simpa only [rep, PC.ren] using h
  | .sl t n xs, x, h => by
    simp only [rep, PC.ren] at h ⊢
    obtain ⟨A, cap, hx, hn, h⟩ := h
    refine ⟨A, cap, hx, hn, ?_⟩
    rcases h with ⟨h, rfl⟩ | ⟨ad, ha, hg, h⟩
    · exact .inl ⟨h, by simp [PC.rens]⟩
    · exact .inr ⟨ad, ha, hg, ren_repAt hφ h0 xs ad h⟩
  | .at t ys, x, h => by
    simp only [rep, PC.ren] at h ⊢
    obtain ⟨ad, hx, hg, h⟩ := h
    exact ⟨ad, hx, hg, ren_repAt hφ h0 ys ad h⟩
  | .loc i off, x, h => by
    simp only [rep, PC.ren] at h ⊢
    obtain ⟨u, g, hu, hg, hx⟩ := h
    have h1 := h0 i (by rw [hu]; simp)
    obtain ⟨i1, i2⟩ := i
    simp at h1
    subst h1
    exact ⟨u, g, hφ _ _ hu, hg, hx⟩
  | .own i, x, h => by
    simp only [rep, PC.ren] at h ⊢
    have h1 := h0 i (by rw [h.1]; simp)
    obtain ⟨i1, i2⟩ := i
    simp at h1
    subst h1
    exact ⟨hφ _ _ h.1, h.2⟩
  | .fn f caps, x, h => by
    simp only [rep, PC.ren] at h ⊢
    obtain ⟨vs, hx, h⟩ := h
    exact ⟨vs, hx, ren_reps hφ h0 caps _ h⟩
theorem ren_repAt {s : Nat} (hφ : ∀ j u, φ (0, j) = some u → φ' (s, j) = some u) (h0 : ∀ i, φ i ≠ none → i.1 = 0) : ∀ (ps : List PC) (ad : Addr), repAt φ w F ad ps → repAt φ' w F ad (PC.rens s ps)
  | [], ad, _ => by simp [repAt, PC.rens]
  | p :: ps, ad, h => by
    simp only [repAt, PC.rens] at h ⊢
    obtain ⟨⟨v, hv, hr⟩, h⟩ := h
    exact ⟨⟨v, hv, ren_rep hφ h0 p v hr⟩, ren_repAt hφ h0 ps _ h⟩
theorem ren_reps {s : Nat} (hφ : ∀ j u, φ (0, j) = some u → φ' (s, j) = some u) (h0 : ∀ i, φ i ≠ none → i.1 = 0) : ∀ (ps : List PC) (vs : List Value), reps φ w F ps vs → reps φ' w F (PC.rens s ps) vs
  | [], vs, h => by simpa only [reps, PC.rens] using h
  | p :: ps, vs, h => by
    simp only [reps, PC.rens] at h ⊢
    obtain ⟨v, vs', he, hr, h⟩ := h
    exact ⟨v, vs', he, ren_rep hφ h0 p v hr, ren_reps hφ h0 ps vs' h⟩
end
mutual
theorem ren_repV {s : Nat} (hφ : ∀ j u, φ (0, j) = some u → φ' (s, j) = some u) (h0 : ∀ i, φ i ≠ none → i.1 = 0) : ∀ (p : PV) (x : Value), repV φ w F p x → repV φ' w F (p.ren s) x
  | .one p, x, h => by simp only [repV, PV.ren] at h ⊢; exact ren_rep hφ h0 p x h
  | .agg ps, x, h => by
    simp only [repV, PV.ren] at h ⊢
    obtain ⟨vs, hx, h⟩ := h
    exact ⟨vs, hx, ren_reps hφ h0 ps _ h⟩
  | .tup vs, x, h => by
    simp only [repV, PV.ren] at h ⊢
    obtain ⟨xs, hx, h⟩ := h
    exact ⟨xs, hx, ren_repVs hφ h0 vs _ h⟩
  | .may b p, x, h => by
    simp only [repV, PV.ren] at h ⊢
    exact ⟨fun e => ren_repV hφ h0 p x (h.1 e), h.2⟩
theorem ren_repVs {s : Nat} (hφ : ∀ j u, φ (0, j) = some u → φ' (s, j) = some u) (h0 : ∀ i, φ i ≠ none → i.1 = 0) : ∀ (ps : List PV) (xs : List Value), repVs φ w F ps xs → repVs φ' w F (PV.rens s ps) xs
  | [], xs, h => by simpa only [repVs, PV.rens] using h
  | p :: ps, xs, h => by
    simp only [repVs, PV.rens] at h ⊢
    obtain ⟨v, vs', he, hr, h⟩ := h
    exact ⟨v, vs', he, ren_repV hφ h0 p v hr, ren_repVs hφ h0 ps vs' h⟩
end
theorem ren_holds {s : Nat} {j : Nat} {b : Blk} (hφ : ∀ j u, φ (0, j) = some u → φ' (s, j) = some u) (h0 : ∀ i, φ i ≠ none → i.1 = 0) (h : holds φ w F (0, j) b) : holds φ' w F (s, j) (b.ren s) := by
  cases b with
  | box ty cells =>
    obtain ⟨g, vs, hp, hh, hr⟩ := h
    exact ⟨g, vs, hφ _ _ hp, hh, ren_reps hφ h0 _ _ hr⟩
  | arr ty size n cells =>
    obtain ⟨v, vs, hp, hh, hr⟩ := h
    exact ⟨v, vs, hφ _ _ hp, hh, ren_reps hφ h0 _ _ hr⟩
theorem strict_holds {i : Id} {b : Blk} (hF : ∀ g, F true g → F' true g) (hs : PC.stricts b.cells = true) (h : holds φ w F i b) : holds φ w F' i b := by
  cases b with
  | box ty cells =>
    obtain ⟨g, vs, hp, hh, hr⟩ := h
    exact ⟨g, vs, hp, hh, strict_reps hF _ _ hs hr⟩
  | arr ty size n cells =>
    obtain ⟨v, vs, hp, hh, hr⟩ := h
    exact ⟨v, vs, hp, hh, strict_reps hF _ _ hs hr⟩
end
end Go.Vm
