/- How deep each symbol stands, on lists alone; the halved counts' tree is not deep. -/
import Derived.Test.YtknjjodkpknglaaHfP
set_option linter.unusedVariables false
set_option linter.unusedSimpArgs false
namespace Go.Huf
theorem treeF_ge : ∀ (n : Nat) (s : List (Int × Int) × List Nat), s.1.length ≤ (treeF n s).1.length
  | 0, s => Nat.le_refl _
  | n + 1, s => by
    rw [treeF]
    split
    · have := treeF_ge n (treeStep s)
      rw [treeStep_len] at this
      omega
    · exact Nat.le_refl _
theorem tree_ge (cs : List Int) : (nodes0 cs).length ≤ (tree cs).length := treeF_ge (nodes0 cs).length (nodes0 cs, List.range (nodes0 cs).length)
theorem treeF_sz : ∀ (n : Nat) (s : List (Int × Int) × List Nat), (treeF n s).1.length ≤ s.1.length + n
  | 0, s => Nat.le_refl _
  | n + 1, s => by
    rw [treeF]
    split
    · have := treeF_sz n (treeStep s)
      rw [treeStep_len] at this
      omega
    · omega
theorem nodes0_le (cs : List Int) : (nodes0 cs).length ≤ cs.length := by
  unfold nodes0
  rw [List.length_map]
  exact List.length_filter_le _ _
theorem tree_sz (cs : List Int) : (tree cs).length ≤ 2 * cs.length := by
  have := treeF_sz (nodes0 cs).length (nodes0 cs, List.range (nodes0 cs).length)
  have := nodes0_le cs
  unfold tree
  dsimp only at *
  omega
theorem tree_ups {cs : List Int} (h : ∀ n ∈ cs, 0 ≤ n) (i : Nat) (hi : i < (tree cs).length) : up1 (tree cs) i = -1 ∨ ∃ t : Nat, up1 (tree cs) i = t ∧ i < t ∧ t < (tree cs).length := by
  obtain ⟨h', p', hI⟩ := TI.run (h := fun _ => 0) (p := 0) (nodes0 cs).length (nodes0 cs) (List.range (nodes0 cs).length) _ _ (TI.start h)
  rcases hI.ups i hi with ⟨h1, _⟩ | ⟨t, h1, h2, h3, _⟩
  · exact .inl h1
  · exact .inr ⟨t, h1, h2, h3⟩
/-- the place among the nodes of symbol i -/
def leaf (cs : List Int) (i : Nat) : Nat := (nodes0 (cs.take i)).length
/-- in how many nodes symbol i stands -/
def dAt (cs : List Int) (i : Nat) : Nat := if cs.getD i 0 = 0 then 0 else max (upN (tree cs) (tree cs).length (up1 (tree cs) (leaf cs i))) 1
def dMost (cs : List Int) : Nat → Nat
  | 0 => 0
  | i + 1 => max (dMost cs i) (dAt cs i)
def depths (cs : List Int) : List Nat := (List.range cs.length).map (dAt cs)
theorem dMost_ge (cs : List Int) : ∀ k i, i < k → dAt cs i ≤ dMost cs k
  | 0, i, h => by omega
  | k + 1, i, h => by
    rw [dMost]
    rcases Nat.lt_succ_iff_lt_or_eq.1 h with h1 | rfl
    · have := dMost_ge cs k i h1; omega
    · omega
theorem dMost_le (cs : List Int) (b : Nat) (h : ∀ i, i < cs.length → dAt cs i ≤ b) : ∀ k, k ≤ cs.length → dMost cs k ≤ b
  | 0, _ => Nat.zero_le _
  | k + 1, hk => by
    rw [dMost]
    have := dMost_le cs b h k (by omega)
    have := h k (by omega)
    omega
theorem nodes0_succ {cs : List Int} {i : Nat} (h : i < cs.length) : leaf cs (i + 1) = leaf cs i + (if 0 < cs[i] then 1 else 0) := by
  unfold leaf
  rw [List.take_succ_eq_append_getElem h]
  unfold nodes0
  rw [List.filter_append, List.map_append, List.length_append]
  congr 1
  by_cases hp : 0 < cs[i] <;> simp [hp]
theorem leaf_le (cs : List Int) (i : Nat) : leaf cs i ≤ (nodes0 cs).length := by
  unfold leaf nodes0
  rw [List.length_map, List.length_map]
  exact (List.Sublist.filter _ (List.take_sublist i cs)).length_le
theorem leaf_lt {cs : List Int} {i : Nat} (h : i < cs.length) (hp : 0 < cs[i]) : leaf cs i < (tree cs).length := by
  have h1 := nodes0_succ h
  rw [if_pos hp] at h1
  have := leaf_le cs (i + 1)
  have := tree_ge cs
  omega
theorem dAt_small {cs : List Int} (h : ∀ n ∈ cs, 0 ≤ n) (hs : cs.sum < fib 15) (i : Nat) (hi : i < cs.length) : dAt cs i ≤ 15 := by
  unfold dAt
  split
  · omega
  · rename_i h1
    rw [List.getD_eq_getElem?_getD, List.getElem?_eq_getElem hi, Option.getD_some] at h1
    have h0 := h _ (List.getElem_mem hi)
    have := tree_deep h hs (tree cs).length (leaf cs i) (leaf_lt hi (by omega))
    omega
/-- a count halved -/
def half (n : Int) : Int := if 0 < n then n.tdiv 2 + 1 else n
theorem half_le {n : Int} (h : 0 ≤ n) : 0 ≤ half n ∧ half n ≤ n ∧ (3 ≤ n → half n < n) ∧ (half n = 0 ↔ n = 0) := by
  unfold half
  by_cases hp : 0 < n
  · rw [if_pos hp, Int.tdiv_eq_ediv_of_nonneg h]
    refine ⟨by omega, by omega, fun h3 => by omega, by omega⟩
  · rw [if_neg hp]
    exact ⟨h, Int.le_refl _, fun h3 => by omega, Iff.rfl⟩
theorem sum_half : ∀ (cs : List Int), (∀ n ∈ cs, 0 ≤ n) → 0 ≤ cs.sum ∧ (cs.map half).sum ≤ cs.sum ∧ ((∃ n ∈ cs, 3 ≤ n) → (cs.map half).sum < cs.sum) ∧ ((∀ n ∈ cs, n ≤ 2) → cs.sum ≤ 2 * cs.length)
  | [], _ => by simp
  | n :: cs, h => by
    obtain ⟨i0, i1, i2, i3⟩ := sum_half cs (fun m hm => h m (by simp [hm]))
    obtain ⟨h0, h1, h2, _⟩ := half_le (h n (by simp))
    have hn := h n (by simp)
    simp only [List.map_cons, List.sum_cons, List.length_cons]
    refine ⟨by omega, by omega, ?_, ?_⟩
    · rintro ⟨m, hm, h3⟩
      rcases List.mem_cons.1 hm with rfl | hm
      · have := h2 h3; omega
      · have := i2 ⟨m, hm, h3⟩; omega
    · intro h4
      have := i3 (fun m hm => h4 m (by simp [hm]))
      have := h4 n (by simp)
      omega
/-- too deep: then the halved counts are fewer -/
theorem deep_half {cs : List Int} (h : ∀ n ∈ cs, 0 ≤ n) (hl : cs.length ≤ 512) (hd : 15 < dMost cs cs.length) : (cs.map half).sum < cs.sum := by
  obtain ⟨_, _, h2, h3⟩ := sum_half cs h
  apply h2
  apply Classical.byContradiction
  intro hc
  have hs := h3 (fun n hn => by
    apply Classical.byContradiction
    intro h4
    exact hc ⟨n, hn, by omega⟩)
  have hf : fib 15 = 1597 := by decide
  have := dMost_le cs 15 (dAt_small h (by omega)) cs.length (Nat.le_refl _)
  omega
end Go.Huf
