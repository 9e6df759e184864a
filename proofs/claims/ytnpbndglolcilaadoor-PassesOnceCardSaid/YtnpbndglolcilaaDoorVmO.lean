/-
  Abstract states over the model's worlds, and that a step of them is a step of the program: part O of a framework. Conditions: each theorem's own premises. By an AI agent.
-/
import Derived.Test.YtnpbndglolcilaaDoorVmN
namespace Go.Vm
open Go Go.RowKit
section
variable {C : Ctx} {φ φ' : Id → Option Value} {F : Bool → Nat → Prop} {F0 F1 : Nat → Prop} {σ : St} {a : Act} {w w' : World} {P : Program}

/-- append, told to where its row lies. -/
theorem append_run (t ty e : TypeId) (i : TypeInfo) (z : Value) (size bytes : Nat) (ht : P.underlying t = some (.slice e)) (hi : P.info? e = some i) (hz : i.zero = some z)
    (hsize : i.size = size) (hby : i.bytes = bytes) (hzs : z.cells.size = size)
    (v : Value) (n : Nat) (xs : List Value) (hown : w.ownsRow 0 e size v n xs)
    (A : Option Addr) (m c : Nat) (news : List Value) (hA : m = 0 ∨ ∃ a, A = some a ∧ ∀ j u, news[j]? = some u → w.cell? (a.add j) = some u) (hl : news.length = m * size) (h1 : ∀ u ∈ news, u.oneCell' = true)
    (h63 : n + m ≤ maxLen) (hbytes : (n + m) * bytes ≤ 140737488355328) :
    ∃ v' w', (Builtin.append_ #[t, t] ty #[v, .slice A m c]).run P w = .ok v' w' ∧ w'.ownsRow 0 e size v' (n + m) (xs ++ news) ∧ w.grownBy w' (blkOf v) ∧
      (blkOf v' = blkOf v ∨ ∃ g, blkOf v' = some g ∧ w.heap.size ≤ g) := by
  subst hsize
  subst hby
  have hlen : (xs ++ news).length = (n + m) * i.size := by rw [List.length_append, hown.1, hl, Nat.add_mul]
  by_cases hm : m = 0
  · subst hm
    have hn : news = [] := List.eq_nil_of_length_eq_zero (by simpa using hl)
    subst hn
    refine ⟨v, w, ?_, by simpa using hown, ⟨rfl, rfl, rfl, Nat.le_refl _, fun _ _ _ => rfl⟩, .inl rfl⟩
    have hfc : ∀ W : World, (Builtin.firstCells i.size 0 (.slice A 0 c)).run P W = .ok #[] W := by
      intro W
      cases A with
      | none => rfl
      | some a => simp [Builtin.firstCells, loadCells, loadCellsFrom]
    rcases hown.2 with ⟨rfl, rfl⟩ | ⟨g, cap, cur, rfl, _, hg, hnc, _⟩
    · simp [Builtin.append_, run_underlying ht, sizeOf, typeInfo, hi, Builtin.lenOf, hfc]
    · simp [Builtin.append_, run_underlying ht, sizeOf, typeInfo, hi, Builtin.lenOf, hfc, hnc, storeCells]
  · obtain ⟨a, rfl, hnews⟩ := hA.resolve_left hm
    have hsmall : n + m ≤ 9223372036854775807 := by simp only [maxLen] at h63; omega
    have grown : ∀ (old : Nat), old < n + m → ∀ (row : Option Nat),
        (w.drew.alloc (.cells (xs.toArray ++ news.toArray ++ Builtin.zeroCells z.cells (grownCap w (n + m) old e - (n + m))) e)).ownsRow 0 e i.size
          (.slice (some ⟨w.heap.size, 0, none⟩) (n + m) (grownCap w (n + m) old e)) (n + m) (xs ++ news) ∧
        w.grownBy (w.drew.alloc (.cells (xs.toArray ++ news.toArray ++ Builtin.zeroCells z.cells (grownCap w (n + m) old e - (n + m))) e)) row := by
      intro old ho row
      have hge := grownCap_ge w (n + m) old e
      have hcm : grownCap w (n + m) old e ≤ maxLen := grownCap_le_maxLen w (n + m) old e h63
      refine ⟨⟨hlen, .inr ⟨w.heap.size, _, _, rfl, Nat.zero_le _, heap_alloc_new w.drew _, hge, hcm, ?_, ?_⟩⟩, ⟨rfl, rfl, rfl, by simp, fun k hk _ => heap_alloc_old w.drew _ k hk⟩⟩
      · simp only [Array.size_append, List.size_toArray, size_zeroCells, hzs, hown.1, hl, ← Nat.add_mul]
        congr 1
        omega
      · simp only [Array.toList_append, List.append_assoc]
        rw [← List.append_assoc, ← hlen]
        exact List.take_left
    rcases hown.2 with ⟨rfl, rfl⟩ | ⟨g, cap, cur, rfl, hbg, hg, hnc, hcm, hcs, htake⟩
    · have hx : xs = [] := List.eq_nil_of_length_eq_zero (by simpa using hown.1)
      subst hx
      have hr := run_append_nil (P := P) w t ty e i z ht hi hz a m c news hl hnews (by omega) (by omega) (by have hb := hbytes; simp only [Nat.zero_add] at hb; omega)
      have hgr := grown 0 (by omega) (blkOf (.slice none 0 0))
      simp only [Nat.zero_add, List.nil_append, Array.empty_append] at hgr ⊢
      exact ⟨_, _, hr, hgr.1, hgr.2, .inr ⟨_, rfl, Nat.le_refl _⟩⟩
    · by_cases hroom : n + m ≤ cap
      · have hfit : n * i.size + news.length ≤ cur.size := by rw [hl, hcs, ← Nat.add_mul]; exact Nat.mul_le_mul_right _ hroom
        have hr := run_append_room (P := P) w t ty e i ht hi g n cap cur hg a m c news hl hnews h1 hroom hfit
        refine ⟨_, _, hr, ⟨hlen, .inr ⟨g, cap, _, rfl, hbg, setRow_heap w g cur _ e _ hg, hroom, hcm, ?_, ?_⟩⟩, ⟨rfl, rfl, rfl, by simp, fun k _ hk => setRow_other w g k _ (fun e => hk (by simp [blkOf, e]))⟩, .inl rfl⟩
        · simp only [List.size_toArray, List.length_append, List.length_take, List.length_drop, Array.length_toList]
          omega
        · rw [htake, ← hlen]
          exact List.take_left
      · have holds : ∀ j u, xs[j]? = some u → w.cell? ((⟨g, 0, none⟩ : Addr).add j) = some u := hown.cells (g := g) rfl
        have hr := run_append_grow (P := P) w t ty e i z ht hi hz ⟨g, 0, none⟩ n cap xs hown.1 holds a m c news hl hnews (by omega) (by omega) (growslice_fits (by omega) hbytes)
        have hgr := grown cap (by omega) (blkOf (.slice (some ⟨g, 0, none⟩) n cap))
        exact ⟨_, _, hr, hgr.1, hgr.2, .inr ⟨_, rfl, Nat.le_refl _⟩⟩

/-- A row of the call's own takes a new name and a new value: it lies where it lay, or in a new block. -/
theorem RelX.rename (h : RelX C φ F0 F1 σ a w) {i j : Id} {d : Nat} {u v : Value} {b : Blk} (hi : σ.H i ≠ none) (hu : φ i = some u) (hj : j.1 = σ.nx + d) (hn : φ j = none)
    (hg : w.grownBy w' (blkOf u)) (hv : blkOf v = blkOf u ∨ ∃ g, blkOf v = some g ∧ w.heap.size ≤ g) (hh : holds (upd φ j (some v)) w' (Fs F0 F1) j b) :
    RelX C (upd φ j (some v)) F0 F1 { σ with H := upd (upd σ.H i none) j (some b), us := upd σ.us d true } a w' := by
  have hij : i ≠ j := by rintro rfl; rw [hu] at hn; cases hn
  have hφ := upd_le (φ := φ) (i := j) hn v
  have hub : ∀ g, blkOf u = some g → ¬ F0 g ∧ ¬ C.K0 g ∧ C.gb ≤ g := fun g hg' => h.apart i u g hi hu hg'
  have hold : ∀ k, k < w.heap.size → some k ≠ blkOf u → w'.heap[k]? = w.heap[k]? := hg.block
  have hwF : ∀ t k, Fs F0 F1 t k → w'.heap[k]? = w.heap[k]? := by
    intro t k hk
    have hk0 := Fs_f0 h.sub t k hk
    exact hold k (h.lt0 k hk0) fun e => (hub k e.symm).1 hk0
  have hH : ∀ k c, upd (upd σ.H i none) j (some b) k = some c → k ≠ j → k ≠ i ∧ σ.H k = some c := by
    intro k c hk hkj
    rw [upd_ne _ _ hkj] at hk
    by_cases hki : k = i
    · subst hki; rw [upd_self] at hk; cases hk
    · rw [upd_ne _ _ hki] at hk; exact ⟨hki, hk⟩
  have hother : ∀ k c x g, k ≠ i → σ.H k = some c → φ k = some x → blkOf x = some g → g < w.heap.size ∧ some g ≠ blkOf u := by
    intro k c x g hki hk hx hgx
    refine ⟨holds_lt (h.heap k c hk) hx hgx, fun e => hki (h.inj k i x u g (by rw [hk]; simp) hi hx hu hgx e.symm)⟩
  refine ⟨h.size, h.defs, fun t p hp => ?_, fun k c hk => ?_, fun k l x y g hk hl hx hy hgx hgy => ?_, fun k x g hk hx hgx => ?_, h.sub, h.ini, h.new1, fun k hk => Nat.lt_of_lt_of_le (h.lt0 k hk) hg.size,
    hg.os.trans h.os, hg.tape.trans h.tape, hg.output.trans h.output, Nat.le_trans h.big hg.size, fun k hk => ?_, h.k0lt, h.gbig, fun k hk => ?_, fun k hk => ?_⟩
  · obtain ⟨x, hx, hr⟩ := h.frame t p hp
    exact ⟨x, hx, repV_mono hφ hwF (fun _ _ e => e) p x hr⟩
  · by_cases hkj : k = j
    · subst hkj
      simp only [upd_self] at hk
      cases hk
      exact hh
    · obtain ⟨hki, hk⟩ := hH k c hk hkj
      refine holds_mono (h.heap k c hk) hφ (fun _ _ e => e) hwF fun x g hx hgx => ?_
      obtain ⟨h1, h2⟩ := hother k c x g hki hk hx hgx
      exact hold g h1 h2
  · obtain ⟨c1, hc1⟩ := Option.ne_none_iff_exists'.1 hk
    obtain ⟨c2, hc2⟩ := Option.ne_none_iff_exists'.1 hl
    have side : ∀ k c x g, k ≠ j → upd (upd σ.H i none) j (some b) k = some c → upd φ j (some v) k = some x → blkOf x = some g → blkOf v ≠ some g := by
      intro k c x g hkj hkc hx hgx hvg
      obtain ⟨hki, hk'⟩ := hH k c hkc hkj
      rw [upd_ne _ _ hkj] at hx
      obtain ⟨h1, h2⟩ := hother k c x g hki hk' hx hgx
      rcases hv with hv | ⟨g', hv, hle⟩
      · exact h2 (by rw [← hv, hvg])
      · rw [hvg] at hv; cases hv; omega
    by_cases hkj : k = j <;> by_cases hlj : l = j
    · rw [hkj, hlj]
    · subst hkj
      simp only [upd_self] at hx; cases hx
      exact absurd hgx (side l c2 y g hlj hc2 hy hgy)
    · subst hlj
      simp only [upd_self] at hy; cases hy
      exact absurd hgy (side k c1 x g hkj hc1 hx hgx)
    · obtain ⟨_, hk'⟩ := hH k c1 hc1 hkj
      obtain ⟨_, hl'⟩ := hH l c2 hc2 hlj
      rw [upd_ne _ _ hkj] at hx
      rw [upd_ne _ _ hlj] at hy
      exact h.inj k l x y g (by rw [hk']; simp) (by rw [hl']; simp) hx hy hgx hgy
  · obtain ⟨c, hc⟩ := Option.ne_none_iff_exists'.1 hk
    by_cases hkj : k = j
    · subst hkj
      simp only [upd_self] at hx; cases hx
      rcases hv with hv | ⟨g', hv, hle⟩
      · exact hub g (by rw [← hv]; exact hgx)
      · rw [hgx] at hv; cases hv
        refine ⟨fun h0 => ?_, fun h0 => ?_, Nat.le_trans (Nat.le_trans h.gbig h.big) hle⟩
        · have := h.lt0 g h0; omega
        · have := h.k0lt g h0; have := h.big; omega
    · obtain ⟨_, hk'⟩ := hH k c hc hkj
      rw [upd_ne _ _ hkj] at hx
      exact h.apart k x g (by rw [hk']; simp) hx hgx
  · refine (hold k (Nat.lt_of_lt_of_le (h.k0lt k hk) h.big) fun e => (hub k e.symm).2.1 hk).trans (h.kept k hk)
  · refine (hold k (Nat.lt_of_lt_of_le hk (Nat.le_trans h.gbig h.big)) fun e => ?_).trans (h.glob k hk)
    have := (hub k e.symm).2.2
    omega
  · by_cases hkj : k = j
    · subst hkj
      exact .inr ⟨d, by simp [upd], hj⟩
    · rw [upd_ne _ _ hkj] at hk
      rcases h.ids k hk with h0 | ⟨e, he, h0⟩
      · exact .inl h0
      · refine .inr ⟨e, ?_, h0⟩
        by_cases hed : e = d
        · subst hed; simp [upd]
        · show upd σ.us d true e = true
          rw [upd_ne _ _ hed]; exact he
end
end Go.Vm
