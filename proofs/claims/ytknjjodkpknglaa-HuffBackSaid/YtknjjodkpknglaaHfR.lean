/- The reference's least node is the one that the list of the free ones gives. -/
import Derived.Test.YtknjjodkpknglaaHfQ
set_option linter.unusedVariables false
set_option linter.unusedSimpArgs false
namespace Go.Huf
/-- the first of least weight, among the first j, that stands in none and is not that one; below 0: none -/
def rl (l : List (Int × Int)) (no : Int) : Nat → Int
  | 0 => -1
  | j + 1 => if (j : Int) ≠ no ∧ up1 l j < 0 ∧ (rl l no j < 0 ∨ wt l j < wt l (rl l no j).toNat) then j else rl l no j
theorem rl_spec (l : List (Int × Int)) (no : Int) : ∀ j, (rl l no j = -1 ∧ ∀ i, i < j → (i : Int) = no ∨ 0 ≤ up1 l i) ∨
    ∃ b : Nat, rl l no j = b ∧ b < j ∧ (b : Int) ≠ no ∧ up1 l b < 0 ∧ ∀ i, i < j → (i : Int) ≠ no → up1 l i < 0 → wt l b ≤ wt l i ∧ (i < b → wt l b < wt l i)
  | 0 => .inl ⟨rfl, fun i h => by omega⟩
  | j + 1 => by
    rw [rl]
    rcases rl_spec l no j with ⟨h1, h2⟩ | ⟨b, h1, h2, h3, h4, h5⟩
    · by_cases hc : (j : Int) ≠ no ∧ up1 l j < 0
      · rw [if_pos ⟨hc.1, hc.2, .inl (by rw [h1]; omega)⟩]
        right
        refine ⟨j, rfl, by omega, hc.1, hc.2, fun i hi hn hu => ?_⟩
        rcases Nat.lt_succ_iff_lt_or_eq.1 hi with h6 | rfl
        · rcases h2 i h6 with h7 | h7
          · exact absurd h7 hn
          · omega
        · exact ⟨Int.le_refl _, fun h => by omega⟩
      · rw [if_neg (fun h => hc ⟨h.1, h.2.1⟩)]
        left
        refine ⟨h1, fun i hi => ?_⟩
        rcases Nat.lt_succ_iff_lt_or_eq.1 hi with h6 | rfl
        · exact h2 i h6
        · by_cases h7 : (i : Int) = no
          · exact .inl h7
          · right
            apply Classical.byContradiction
            intro h8
            exact hc ⟨h7, by omega⟩
    · by_cases hc : (j : Int) ≠ no ∧ up1 l j < 0 ∧ (rl l no j < 0 ∨ wt l j < wt l (rl l no j).toNat)
      · rw [if_pos hc]
        rw [h1, Int.toNat_natCast] at hc
        have hlt : wt l j < wt l b := by rcases hc.2.2 with h | h <;> omega
        right
        refine ⟨j, rfl, by omega, hc.1, hc.2.1, fun i hi hn hu => ?_⟩
        rcases Nat.lt_succ_iff_lt_or_eq.1 hi with h6 | rfl
        · have := (h5 i h6 hn hu).1
          exact ⟨by omega, fun _ => by omega⟩
        · exact ⟨Int.le_refl _, fun h => by omega⟩
      · rw [if_neg hc]
        right
        refine ⟨b, h1, by omega, h3, h4, fun i hi hn hu => ?_⟩
        rcases Nat.lt_succ_iff_lt_or_eq.1 hi with h6 | rfl
        · exact h5 i h6 hn hu
        · refine ⟨?_, fun h => by omega⟩
          apply Classical.byContradiction
          intro h8
          exact hc ⟨hn, hu, .inr (by rw [h1, Int.toNat_natCast]; omega)⟩
/-- what the list of the free ones gives -/
theorem least_spec {l : List (Int × Int)} {free : List Nat} (hs : free.Pairwise (· < ·)) (h0 : 0 < free.length) :
    free.getD (leastK l free) 0 ∈ free ∧ ∀ v ∈ free, wt l (free.getD (leastK l free) 0) ≤ wt l v ∧ (v < free.getD (leastK l free) 0 → wt l (free.getD (leastK l free) 0) < wt l v) := by
  have hk := leastK_lt (l := l) h0
  refine ⟨getD_mem hk, fun v hv => ?_⟩
  obtain ⟨j, hj, rfl⟩ := List.mem_iff_getElem.1 hv
  have e : free.getD j 0 = free[j] := by simp [List.getD, hj]
  have h1 := leastK_le (l := l) (free := free) hj
  rw [e] at h1
  refine ⟨h1, fun hlt => ?_⟩
  have hg : free.getD (leastK l free) 0 = free[leastK l free] := by simp [List.getD, hk]
  have hjk : j < leastK l free := by
    rcases Nat.lt_trichotomy j (leastK l free) with h | h | h
    · exact h
    · rw [hg] at hlt
      have : free[j] = free[leastK l free] := by simp [h]
      omega
    · have := List.pairwise_iff_getElem.1 hs _ _ hk hj h
      rw [hg] at hlt
      omega
  have h2 := scanK_first l free free.length j hjk
  rw [e] at h2
  exact h2
theorem rl_least {l : List (Int × Int)} {free : List Nat} {no : Int} (hs : free.Pairwise (· < ·)) (h0 : 0 < free.length) (hm : ∀ v : Nat, v ∈ free ↔ v < l.length ∧ (v : Int) ≠ no ∧ up1 l v < 0) :
    rl l no l.length = (free.getD (leastK l free) 0 : Nat) := by
  obtain ⟨h1, h2⟩ := least_spec (l := l) hs h0
  obtain ⟨a1, a2, a3⟩ := (hm _).1 h1
  rcases rl_spec l no l.length with ⟨_, h4⟩ | ⟨b, h3, h4, h5, h6, h7⟩
  · rcases h4 _ a1 with h | h
    · exact absurd h a2
    · omega
  · rw [h3]
    have hb := (hm b).2 ⟨h4, h5, h6⟩
    obtain ⟨c1, c2⟩ := h2 b hb
    obtain ⟨c3, c4⟩ := h7 _ a1 a2 a3
    generalize free.getD (leastK l free) 0 = a at *
    have : b = a := by
      rcases Nat.lt_trichotomy b a with h | h | h
      · have := c2 h; omega
      · exact h
      · have := c4 h; omega
    rw [this]
/-- the step, in the reference's order: linked first, then laid -/
theorem treeStep_ref {l : List (Int × Int)} {free : List Nat} {h : Nat → Nat} {p tot : Int} (hI : TI l free h p tot) (hf : 1 < free.length) :
    ∃ a b : Nat, rl l (-1) l.length = a ∧ rl l a l.length = b ∧ a < l.length ∧ b < l.length ∧ a ≠ b ∧ 0 ≤ wt l a ∧ wt l a ≤ tot ∧ 0 ≤ wt l b ∧ wt l b ≤ tot ∧
      (treeStep (l, free)).1 = link (link l a l.length) b l.length ++ [(wt l a + wt l b, -1)] := by
  obtain ⟨k1, hk1⟩ : ∃ k1, k1 = leastK l free := ⟨_, rfl⟩
  obtain ⟨a, ha⟩ : ∃ a, a = free.getD k1 0 := ⟨_, rfl⟩
  obtain ⟨f1, hf1⟩ : ∃ f1, f1 = free.eraseIdx k1 := ⟨_, rfl⟩
  obtain ⟨k2, hk2⟩ : ∃ k2, k2 = leastK l f1 := ⟨_, rfl⟩
  obtain ⟨b, hb⟩ : ∃ b, b = f1.getD k2 0 := ⟨_, rfl⟩
  have h1 : k1 < free.length := by rw [hk1]; exact leastK_lt (by omega)
  have hl1 : f1.length = free.length - 1 := by rw [hf1, List.length_eraseIdx, if_pos h1]
  have h2 : k2 < f1.length := by rw [hk2]; exact leastK_lt (by omega)
  have hn1 : f1.Pairwise (· < ·) := by rw [hf1]; exact hI.nod.sublist (List.eraseIdx_sublist _ _)
  have am : a ∈ free := by rw [ha]; exact getD_mem h1
  have bm1 : b ∈ f1 := by rw [hb]; exact getD_mem h2
  obtain ⟨bm, hba⟩ : b ∈ free ∧ b ≠ a := by rw [ha]; rw [hf1] at bm1; exact mem_eraseIdx_ne hI.nod h1 bm1
  obtain ⟨al, au⟩ := hI.frl a am
  obtain ⟨bl, bu⟩ := hI.frl b bm
  have hmem : ∀ v : Nat, v ∈ free ↔ v < l.length ∧ (v : Int) ≠ -1 ∧ up1 l v < 0 := fun v => by
    constructor
    · intro hv
      obtain ⟨x1, x2⟩ := hI.frl v hv
      exact ⟨x1, by omega, by omega⟩
    · rintro ⟨x1, _, x3⟩
      rcases hI.ups v x1 with ⟨_, x4⟩ | ⟨t, x4, _⟩
      · exact x4
      · omega
  have hmem1 : ∀ v : Nat, v ∈ f1 ↔ v < l.length ∧ (v : Int) ≠ a ∧ up1 l v < 0 := fun v => by
    constructor
    · intro hv
      rw [hf1] at hv
      obtain ⟨x1, x2⟩ := mem_eraseIdx_ne hI.nod h1 hv
      rw [← ha] at x2
      obtain ⟨x3, x4, x5⟩ := (hmem v).1 x1
      exact ⟨x3, by omega, x5⟩
    · rintro ⟨x1, x2, x3⟩
      rw [hf1]
      exact mem_of_ne h1 ((hmem v).2 ⟨x1, by omega, x3⟩) (by rw [← ha]; omega)
  have hpw : ∀ v ∈ free, 0 ≤ wt l v := fun v hv => by have := hI.wts v (hI.frl v hv).1; have := fib_pos (h v); omega
  have wa := wt_le_sum (l := l) free hpw a am
  have wb := wt_le_sum (l := l) free hpw b bm
  rw [hI.tots] at wa wb
  refine ⟨a, b, ?_, ?_, al, bl, fun e => hba e.symm, hpw a am, wa, hpw b bm, wb, ?_⟩
  · rw [rl_least hI.nod (by omega) hmem, ← hk1, ← ha]
  · rw [rl_least hn1 (by omega) hmem1, ← hk2, ← hb]
  · unfold treeStep
    simp only [← hk1, ← ha, ← hf1, ← hk2, ← hb]
    have e1 : link (l ++ [(wt l a + wt l b, -1)]) a l.length = link l a l.length ++ [(wt l a + wt l b, -1)] := by
      unfold link
      rw [wt_app al, List.set_append_left _ _ al]
    rw [e1]
    have e2 : link (link l a l.length ++ [(wt l a + wt l b, -1)]) b l.length = link (link l a l.length) b l.length ++ [(wt l a + wt l b, -1)] := by
      unfold link
      have hbl : b < (l.set a (wt l a, (l.length : Int))).length := by rw [List.length_set]; exact bl
      rw [wt_app hbl, List.set_append_left _ _ hbl]
    rw [e2]
end Go.Huf
