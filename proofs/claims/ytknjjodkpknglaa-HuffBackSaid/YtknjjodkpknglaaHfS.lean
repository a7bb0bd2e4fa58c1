/- The reference's nodes with their symbols, on lists alone; the row of depths as it is filled. -/
import Derived.Test.YtknjjodkpknglaaHfR
set_option linter.unusedVariables false
set_option linter.unusedSimpArgs false
namespace Go.Huf
abbrev RN3 := (Int × Int) × Int
/-- the symbols' nodes of the first k counts -/
def lay (cs : List Int) : Nat → List RN3
  | 0 => []
  | k + 1 => lay cs k ++ (if 0 < cs.getD k 0 then [((cs.getD k 0, -1), (k : Int))] else [])
theorem lay_fst (cs : List Int) : ∀ k, k ≤ cs.length → (lay cs k).map Prod.fst = nodes0 (cs.take k)
  | 0, _ => by simp [lay, nodes0]
  | k + 1, h => by
    have e : cs.getD k 0 = cs[k] := by simp [List.getD, show k < cs.length by omega]
    rw [lay, List.map_append, lay_fst cs k (by omega), List.take_succ_eq_append_getElem (by omega), e]
    unfold nodes0
    rw [List.filter_append, List.map_append]
    congr 1
    by_cases hp : 0 < cs[k] <;> simp [hp]
theorem lay_len (cs : List Int) (k : Nat) (h : k ≤ cs.length) : (lay cs k).length = leaf cs k := by
  have := congrArg List.length (lay_fst cs k h)
  rwa [List.length_map] at this
theorem lay_snd (cs : List Int) : ∀ (k i : Nat) (h : k ≤ cs.length) (hi : i < (lay cs k).length), ∃ j : Nat, (lay cs k)[i].2 = j ∧ j < k ∧ 0 < cs.getD j 0 ∧ leaf cs j = i
  | 0, i, _, hi => by simp [lay] at hi
  | k + 1, i, h, hi => by
    by_cases hlt : i < (lay cs k).length
    · obtain ⟨j, h1, h2, h3, h4⟩ := lay_snd cs k i (by omega) hlt
      refine ⟨j, ?_, by omega, h3, h4⟩
      simp only [lay]
      rw [List.getElem_append_left hlt]
      exact h1
    · by_cases hp : 0 < cs.getD k 0
      · simp only [lay, if_pos hp, List.length_append, List.length_singleton] at hi
        obtain rfl : i = (lay cs k).length := by omega
        refine ⟨k, ?_, by omega, hp, (lay_len cs k (by omega)).symm⟩
        simp only [lay, if_pos hp]
        rw [List.getElem_append_right (Nat.le_refl _)]
        simp
      · simp only [lay, if_neg hp, List.append_nil] at hi
        omega
/-- one node linked -/
def rlink (r : List RN3) (i : Nat) (t : Int) : List RN3 := r.set i (((r.getD i ((0, -1), -1)).1.1, t), (r.getD i ((0, -1), -1)).2)
theorem rlink_len {r : List RN3} {i : Nat} {t : Int} : (rlink r i t).length = r.length := by simp [rlink]
theorem rlink_fst {r : List RN3} {i : Nat} {t : Int} (h : i < r.length) : (rlink r i t).map Prod.fst = link (r.map Prod.fst) i t := by
  unfold rlink link wt
  rw [List.map_set]
  simp [List.getD, h]
theorem rlink_snd {r : List RN3} {i : Nat} {t : Int} (h : i < r.length) : (rlink r i t).map Prod.snd = r.map Prod.snd := by
  unfold rlink
  rw [List.map_set]
  apply List.ext_getElem
  · simp
  · intro j h1 h2
    rw [List.getElem_set]
    split
    · subst_vars
      simp [List.getD, h]
    · rfl
/-- one free one alone: there is no second -/
theorem rl_none {l : List (Int × Int)} {free : List Nat} {h : Nat → Nat} {p tot : Int} (hI : TI l free h p tot) (hf : free.length = 1) : rl l (rl l (-1) l.length) l.length = -1 := by
  obtain ⟨x, rfl⟩ := List.length_eq_one_iff.1 hf
  have hx := hI.frl x (by simp)
  have hin : ∀ b : Nat, b < l.length → up1 l b < 0 → b = x := fun b hb hu => by
    rcases hI.ups b hb with ⟨_, h1⟩ | ⟨t, h1, _⟩
    · simpa using h1
    · omega
  rcases rl_spec l (-1) l.length with ⟨h1, h2⟩ | ⟨b, h1, h2, h3, h4, _⟩
  · rcases h2 x hx.1 with h | h <;> omega
  · rw [h1]
    have hbx := hin b h2 h4
    rcases rl_spec l b l.length with ⟨h5, _⟩ | ⟨c, h5, h6, h7, h8, _⟩
    · exact h5
    · have := hin c h6 h8
      omega
theorem rl_range (l : List (Int × Int)) (no : Int) (j : Nat) : -1 ≤ rl l no j ∧ rl l no j < j ∨ rl l no j = -1 := by
  rcases rl_spec l no j with ⟨h1, _⟩ | ⟨b, h1, h2, _⟩
  · exact .inr h1
  · left; omega
/-- the row of depths, when the first i symbols' are laid -/
def oRow (cs : List Int) (i : Nat) : List Int := (List.range cs.length).map fun j => if leaf cs j < i then (dAt cs j : Int) else 0
theorem oRow_len (cs : List Int) (i : Nat) : (oRow cs i).length = cs.length := by simp [oRow]
theorem oRow_zero (cs : List Int) : oRow cs 0 = List.replicate cs.length 0 := by
  unfold oRow
  apply List.ext_getElem
  · simp
  · intro j h1 h2; simp
theorem leaf_mono {cs : List Int} : ∀ {j k : Nat}, j ≤ k → k ≤ cs.length → leaf cs j ≤ leaf cs k := by
  intro j k h hk
  unfold leaf nodes0
  rw [List.length_map, List.length_map]
  exact (List.Sublist.filter _ (List.take_sublist_take_left h)).length_le
theorem leaf_lt2 {cs : List Int} {j k : Nat} (h : j < k) (hk : k ≤ cs.length) (hp : 0 < cs.getD j 0) : leaf cs j < leaf cs k := by
  have e : cs.getD j 0 = cs[j] := by simp [List.getD, show j < cs.length by omega]
  rw [e] at hp
  have h1 := nodes0_succ (cs := cs) (i := j) (by omega)
  rw [if_pos hp] at h1
  have := leaf_mono (cs := cs) (j := j + 1) (k := k) (by omega) hk
  omega
theorem dAt_zero {cs : List Int} {j : Nat} (h : cs.getD j 0 = 0) : dAt cs j = 0 := by unfold dAt; rw [if_pos h]
theorem oRow_succ {cs : List Int} {i j : Nat} (h0 : ∀ n ∈ cs, 0 ≤ n) (hj : j < cs.length) (hp : 0 < cs.getD j 0) (hl : leaf cs j = i) : (oRow cs i).set j (dAt cs j : Int) = oRow cs (i + 1) := by
  apply List.ext_getElem
  · simp [oRow]
  · intro q h1 h2
    have hq : q < cs.length := by rw [List.length_set, oRow_len] at h1; exact h1
    rw [List.getElem_set]
    simp only [oRow, List.getElem_map, List.getElem_range]
    by_cases hjq : j = q
    · subst hjq
      rw [if_pos rfl, if_pos (by omega)]
    · rw [if_neg hjq]
      by_cases hlq : leaf cs q = i
      · have hz : cs.getD q 0 = 0 := by
          apply Classical.byContradiction
          intro hne
          have hqn : 0 ≤ cs.getD q 0 := by
            rw [show cs.getD q 0 = cs[q] by simp [List.getD, hq]]
            exact h0 _ (List.getElem_mem hq)
          rcases Nat.lt_or_ge j q with h | h
          · have := leaf_lt2 h (by omega) hp
            omega
          · have := leaf_lt2 (cs := cs) (j := q) (k := j) (by omega) (by omega) (by omega)
            omega
        rw [dAt_zero hz]
        simp
      · by_cases h3 : leaf cs q < i
        · rw [if_pos h3, if_pos (by omega)]
        · rw [if_neg h3, if_neg (by omega)]
theorem oRow_all {cs : List Int} (h0 : ∀ n ∈ cs, 0 ≤ n) : oRow cs (leaf cs cs.length) = (depths cs).map fun (k : Nat) => (k : Int) := by
  unfold oRow depths
  rw [List.map_map]
  refine List.map_congr_left (fun j hj => ?_)
  have hj' : j < cs.length := by simpa using hj
  dsimp only [Function.comp]
  by_cases hz : cs.getD j 0 = 0
  · rw [dAt_zero hz]; simp
  · have hn : 0 ≤ cs.getD j 0 := by
      rw [show cs.getD j 0 = cs[j] by simp [List.getD, hj']]
      exact h0 _ (List.getElem_mem hj')
    rw [if_pos (leaf_lt2 hj' (Nat.le_refl _) (by omega))]
end Go.Huf
