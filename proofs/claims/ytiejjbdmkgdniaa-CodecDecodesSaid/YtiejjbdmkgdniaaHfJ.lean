/- The lengths of counts are a code's, and no code costs less: symbol by symbol. -/
import Derived.Test.YtiejjbdmkgdniaaHfP
import Derived.Test.YtiejjbdmkgdniaaH6
import Derived.Test.YtiejjbdmkgdniaaK7
import Derived.Test.YtiejjbdmkgdniaaC2
import Derived.Test.YtiejjbdmkgdniaaReg
set_option linter.unusedVariables false
set_option linter.unusedSimpArgs false
namespace Go.Huf
theorem range_succ_sm (F : Nat → Int) (k : Nat) : Sm F (List.range (k + 1)) = Sm F (List.range k) + F k := by rw [List.range_succ, Sm_snoc]
theorem sumR_sm (f : Nat → Nat) : ∀ m, ((sumR f m : Nat) : Int) = Sm (fun j => (f j : Int)) (List.range m)
  | 0 => rfl
  | m + 1 => by rw [range_succ_sm, sumR, Int.natCast_add, sumR_sm f m]
theorem countP_sm (p : Int → Bool) : ∀ (ls : List Int), (ls.countP p : Int) = Sm (fun j => if p (ls.getD j 0) then 1 else 0) (List.range ls.length) := by
  intro ls
  have key : ∀ m, m ≤ ls.length → ((ls.take m).countP p : Int) = Sm (fun j => if p (ls.getD j 0) then 1 else 0) (List.range m) := by
    intro m
    induction m with
    | zero => intro _; simp [Sm]
    | succ m ih =>
      intro h
      rw [List.take_succ_eq_append_getElem (by omega), List.countP_append, range_succ_sm, ← ih (by omega)]
      have : ls.getD m 0 = ls[m] := by simp [List.getD, show m < ls.length by omega]
      rw [this]
      cases hp : p ls[m] <;> simp [hp]
  have := key ls.length (Nat.le_refl _)
  rwa [List.take_length] at this
theorem leaf_syms (cs : List Int) : ∀ k, k ≤ cs.length → leaf cs k = (symsK cs k).length
  | 0, _ => by simp [leaf, nodes0, symsK]
  | k + 1, h => by
    have e : cs.getD k 0 = cs[k] := by simp [List.getD, show k < cs.length by omega]
    rw [nodes0_succ (by omega), leaf_syms cs k (by omega), symsK_succ, e]
    split <;> simp
theorem syms_split (cs : List Int) (j : Nat) : ∀ k, ∃ r, symsK cs (j + k) = symsK cs j ++ r
  | 0 => ⟨[], by simp⟩
  | k + 1 => by
    obtain ⟨r, hr⟩ := syms_split cs j k
    refine ⟨r ++ (if 0 < cs.getD (j + k) 0 then [j + k] else []), ?_⟩
    rw [show j + (k + 1) = (j + k) + 1 by omega, symsK_succ, hr, List.append_assoc]
/-- the symbol of a leaf -/
theorem sym_leaf {cs : List Int} {j : Nat} (hj : j < cs.length) (hp : 0 < cs.getD j 0) : (symsK cs cs.length).getD (leaf cs j) 0 = j := by
  obtain ⟨r, hr⟩ := syms_split cs (j + 1) (cs.length - (j + 1))
  rw [show j + 1 + (cs.length - (j + 1)) = cs.length by omega] at hr
  rw [hr, symsK_succ, if_pos hp, leaf_syms cs j (by omega)]
  simp [List.getD]
theorem leaf_all (cs : List Int) : leaf cs cs.length = (nodes0 cs).length := by unfold leaf; rw [List.take_length]
/-- a sum over the symbols that come is one over the leaves -/
theorem sm_leaf (cs : List Int) (G : Nat → Int) : ∀ k, k ≤ cs.length → Sm (fun j => if 0 < cs.getD j 0 then G (leaf cs j) else 0) (List.range k) = Sm G (List.range (leaf cs k))
  | 0, _ => by simp [leaf, nodes0, Sm]
  | k + 1, h => by
    have e : cs.getD k 0 = cs[k] := by simp [List.getD, show k < cs.length by omega]
    rw [range_succ_sm, sm_leaf cs G k (by omega), nodes0_succ (by omega), e]
    split
    · rw [range_succ_sm]
    · simp
theorem wt_leaf {cs : List Int} : ∀ k, k ≤ cs.length → ∀ j, j < k → 0 < cs.getD j 0 → wt (nodes0 (cs.take k)) (leaf cs j) = cs.getD j 0
  | 0, _, j, hj, _ => by omega
  | k + 1, h, j, hj, hp => by
    have e : cs.getD k 0 = cs[k] := by simp [List.getD, show k < cs.length by omega]
    have hn : nodes0 (cs.take (k + 1)) = nodes0 (cs.take k) ++ (if 0 < cs[k] then [(cs[k], -1)] else []) := by
      rw [List.take_succ_eq_append_getElem (by omega)]
      unfold nodes0
      rw [List.filter_append, List.map_append]
      congr 1
      by_cases hp : 0 < cs[k] <;> simp [hp]
    rw [hn]
    rcases Nat.lt_succ_iff_lt_or_eq.1 hj with h1 | rfl
    · have hl : leaf cs j < (nodes0 (cs.take k)).length := by
        have h2 := nodes0_succ (cs := cs) (i := j) (by omega)
        have e2 : cs.getD j 0 = cs[j] := by simp [List.getD, show j < cs.length by omega]
        rw [e2] at hp
        rw [if_pos hp] at h2
        have h3 : leaf cs (j + 1) ≤ leaf cs k := by
          unfold leaf nodes0
          rw [List.length_map, List.length_map]
          exact (List.Sublist.filter _ (List.take_sublist_take_left (by omega))).length_le
        show leaf cs j < leaf cs k
        omega
      unfold wt
      rw [List.getD_eq_getElem?_getD, List.getElem?_append_left hl, ← List.getD_eq_getElem?_getD]
      exact wt_leaf k (by omega) j h1 hp
    · rw [e] at hp ⊢
      rw [if_pos hp]
      unfold wt leaf
      simp [List.getD]
theorem wt_leaf' {cs : List Int} {j : Nat} (hj : j < cs.length) (hp : 0 < cs.getD j 0) : wt (nodes0 cs) (leaf cs j) = cs.getD j 0 := by
  have := wt_leaf (cs := cs) cs.length (Nat.le_refl _) j hj hp
  rwa [List.take_length] at this
section
variable {cs : List Int}
theorem upN_le' (l : List (Int × Int)) : ∀ (f : Nat) (k : Int), upN l f k ≤ f
  | 0, _ => Nat.le_refl _
  | f + 1, k => by
    rw [upN]
    have := upN_le' l f (up1 l k.toNat)
    split <;> omega
theorem tree_run (h : ∀ n ∈ cs, 0 ≤ n) (K : Nat) (h0 : 0 < (nodes0 cs).length) :
    cst (wt (nodes0 cs)) (Dp (tree cs)) (List.range (nodes0 cs).length) = Hc (nodes0 cs).length (nodes0 cs, List.range (nodes0 cs).length) ∧
      ((∀ v ∈ List.range (nodes0 cs).length, Dp (tree cs) v ≤ K) → krf K (Dp (tree cs)) (List.range (nodes0 cs).length) = pk K 0) :=
  cost_run K (nodes0 cs).length _ _ _ _ (TI.start h) (by simp) (by simpa using h0)
theorem Dp_pos (h : ∀ n ∈ cs, 0 ≤ n) (h2 : 2 ≤ (nodes0 cs).length) {i : Nat} (hi : i < (nodes0 cs).length) : 1 ≤ Dp (tree cs) i := by
  apply Classical.byContradiction
  intro hc
  have hz : Dp (tree cs) i = 0 := by omega
  have hk := (tree_run h (tree cs).length (by omega)).2 (fun v hv => upN_le' _ _ _)
  obtain ⟨j, hj, hne⟩ : ∃ j, j < (nodes0 cs).length ∧ i ≠ j := by
    rcases Nat.eq_zero_or_pos i with h0 | h0
    · exact ⟨1, by omega, by omega⟩
    · exact ⟨0, by omega, by omega⟩
  obtain ⟨r, hr, _, _⟩ := two_out (free := List.range (nodes0 cs).length) List.nodup_range (List.mem_range.2 hi) (List.mem_range.2 hj) hne
  unfold krf at hk
  rw [Sm_perm hr, Sm_cons, Sm_cons, hz] at hk
  have h1 := pk_pos (tree cs).length (Dp (tree cs) j)
  have h3 : 0 ≤ Sm (fun v => pk (tree cs).length (Dp (tree cs) v)) r := Sm_nonneg (fun v hv => by have := pk_pos (tree cs).length (Dp (tree cs) v); omega)
  omega
theorem Dp_one (h1 : (nodes0 cs).length = 1) {i : Nat} (hi : i < 1) : Dp (tree cs) i = 0 := by
  have e : tree cs = nodes0 cs := by
    unfold tree
    rw [h1, treeF]
    rw [if_neg (by simp)]
  rw [e]
  exact Dp_none (nodes0_wt (by omega)).2
theorem dAt_pos {j : Nat} (hp : 0 < cs.getD j 0) : dAt cs j = max (Dp (tree cs) (leaf cs j)) 1 := by
  unfold dAt Dp
  rw [if_neg (by omega)]
theorem leaf_lt' {j : Nat} (hj : j < cs.length) (hp : 0 < cs.getD j 0) : leaf cs j < (nodes0 cs).length := by
  have e : cs.getD j 0 = cs[j] := by simp [List.getD, hj]
  rw [e] at hp
  have h1 := nodes0_succ hj
  rw [if_pos hp] at h1
  have := leaf_le cs (j + 1)
  omega
theorem cs_nn (h : ∀ n ∈ cs, 0 ≤ n) (j : Nat) : 0 ≤ cs.getD j 0 := by
  rcases Nat.lt_or_ge j cs.length with hj | hj
  · rw [show cs.getD j 0 = cs[j] by simp [List.getD, hj]]; exact h _ (List.getElem_mem hj)
  · simp [List.getD, hj]
theorem ln_depths (j : Nat) : ln (toI (depths cs)) j = if j < cs.length then (dAt cs j : Int) else 0 := by
  unfold ln toI depths
  by_cases hj : j < cs.length
  · simp [List.getD, hj]
  · simp [List.getD, hj]
theorem depths_len : (toI (depths cs)).length = cs.length := by simp [toI, depths]
theorem ln_depths_pos (h : ∀ n ∈ cs, 0 ≤ n) {j : Nat} (hj : j < cs.length) : (0 < ln (toI (depths cs)) j ↔ 0 < cs.getD j 0) ∧ (ln (toI (depths cs)) j = 0 ↔ cs.getD j 0 = 0) := by
  rw [ln_depths, if_pos hj]
  have := cs_nn h j
  by_cases hp : 0 < cs.getD j 0
  · rw [dAt_pos hp]
    omega
  · unfold dAt
    rw [if_pos (by omega)]
    omega
/-- the lengths of counts are a code's -/
theorem depths_ok (h : ∀ n ∈ cs, 0 ≤ n) (hl : cs.length ≤ 512) (hd : ∀ j, j < cs.length → dAt cs j ≤ 15) : okL (toI (depths cs)) := by
  have hg : good (toI (depths cs)) := fun n hn => by
    obtain ⟨j, hj, rfl⟩ := List.mem_iff_getElem.1 hn
    rw [← ln_eq hj, ln_depths]
    rw [depths_len] at hj
    rw [if_pos hj]
    have := hd j hj
    omega
  refine ⟨by rw [depths_len]; exact hl, hg, ?_⟩
  rcases Nat.lt_or_ge (nodes0 cs).length 2 with h2 | h2
  · -- one symbol, or none
    have hs : (some_ (toI (depths cs)) : Int) = (nodes0 cs).length := by
      unfold some_
      rw [countP_sm, depths_len, ← leaf_all]
      have := sm_leaf cs (fun _ => 1) cs.length (Nat.le_refl _)
      rw [show Sm (fun _ => (1 : Int)) (List.range (leaf cs cs.length)) = (leaf cs cs.length : Int) from by
        generalize leaf cs cs.length = m
        induction m with
        | zero => rfl
        | succ m ih => rw [range_succ_sm, ih]; omega] at this
      rw [← this]
      refine Sm_congr (fun j hj => ?_)
      have hj' : j < cs.length := by simpa using hj
      have := (ln_depths_pos h hj').1
      unfold ln at this
      simp only [decide_eq_true_eq, this]
    rcases Nat.lt_or_ge (nodes0 cs).length 1 with h1 | h1
    · left; omega
    · right; left
      refine ⟨by omega, ?_⟩
      have hc : (cnt (toI (depths cs)) 1 : Int) = (some_ (toI (depths cs)) : Int) := by
        unfold cnt some_
        rw [countP_sm, countP_sm]
        refine Sm_congr (fun j hj => ?_)
        have hj' : j < cs.length := by simpa [depths_len] using hj
        have h3 := ln_depths (cs := cs) j
        rw [if_pos hj'] at h3
        unfold ln at h3
        rw [h3]
        by_cases hp : 0 < cs.getD j 0
        · have := leaf_lt' hj' hp
          rw [dAt_pos hp, Dp_one (by omega) (by omega)]
          rfl
        · have := cs_nn h j
          have hz : dAt cs j = 0 := by unfold dAt; rw [if_pos (by omega)]
          rw [hz]
          rfl
      omega
  · right; right
    rw [room_sum, sumR_sm, depths_len]
    have hk := (tree_run h 15 (by omega)).2 (fun v hv => by
      have hv' : v < (nodes0 cs).length := by simpa using hv
      -- v is some symbol's leaf
      obtain ⟨j, hj, hp, rfl⟩ : ∃ j, j < cs.length ∧ 0 < cs.getD j 0 ∧ leaf cs j = v := by
        have hls := leaf_syms cs cs.length (Nat.le_refl _)
        rw [leaf_all] at hls
        have hvl : v < (symsK cs cs.length).length := by omega
        obtain ⟨h1, h3⟩ := symsK_mem.1 (List.getElem_mem hvl)
        refine ⟨_, h1, h3, ?_⟩
        have h4 := sym_leaf h1 h3
        have hnd : (symsK cs cs.length).Nodup := (symsK_inc cs cs.length).imp (fun h => by omega)
        have hll : leaf cs (symsK cs cs.length)[v] < (symsK cs cs.length).length := by rw [← hls]; exact leaf_lt' h1 h3
        rw [show (symsK cs cs.length).getD (leaf cs (symsK cs cs.length)[v]) 0 = (symsK cs cs.length)[leaf cs (symsK cs cs.length)[v]] by simp [List.getD, hll]] at h4
        exact (List.getElem_inj hnd).1 h4
      have := hd j hj
      rw [dAt_pos hp] at this
      omega)
    have e : Sm (fun j => (pj (toI (depths cs)) j : Int)) (List.range cs.length) = krf 15 (Dp (tree cs)) (List.range (nodes0 cs).length) := by
      unfold krf
      rw [← leaf_all, ← sm_leaf cs _ cs.length (Nat.le_refl _)]
      refine Sm_congr (fun j hj => ?_)
      have hj' : j < cs.length := by simpa using hj
      have h3 := ln_depths_pos h hj'
      unfold pj
      by_cases hp : 0 < cs.getD j 0
      · rw [if_pos (h3.1.2 hp), if_pos hp, ln_depths, if_pos hj', dAt_pos hp]
        have := Dp_pos h h2 (leaf_lt' hj' hp)
        rw [Nat.max_eq_left this]
        simp [pk, p2]
      · rw [if_neg (fun hc => hp (h3.1.1 hc)), if_neg hp]
        rfl
    rw [e, hk]
    rfl
/-- a code's cost -/
def costS (cs ls : List Int) : Int := Sm (fun j => cs.getD j 0 * ls.getD j 0) (List.range cs.length)
/-- no code costs less -/
theorem depths_best (h : ∀ n ∈ cs, 0 ≤ n) {ot : List Int} (ho : okL ot) (hl : ot.length = cs.length) (hp : ∀ j, j < cs.length → 0 < cs.getD j 0 → ot.getD j 0 ≠ 0) : costS cs (toI (depths cs)) ≤ costS cs ot := by
  have hop : ∀ j, 0 ≤ ot.getD j 0 ∧ ot.getD j 0 ≤ 15 := fun j => ln_good ho.2.1 j
  rcases Nat.lt_or_ge (nodes0 cs).length 2 with h2 | h2
  · refine Sm_le (fun j hj => ?_)
    have hj' : j < cs.length := by simpa using hj
    have h3 := ln_depths (cs := cs) j
    rw [if_pos hj'] at h3
    unfold ln at h3
    rw [h3]
    have h0 := cs_nn h j
    by_cases hpj : 0 < cs.getD j 0
    · have h4 := leaf_lt' hj' hpj
      have h5 := hp j hj' hpj
      have h6 := hop j
      rw [dAt_pos hpj, Dp_one (by omega) (by omega)]
      exact Int.mul_le_mul_of_nonneg_left (show (1 : Int) ≤ ot.getD j 0 by omega) h0
    · have : cs.getD j 0 = 0 := by omega
      rw [this]
      simp
  · obtain ⟨lam, hlam⟩ : ∃ lam : Nat → Nat, lam = fun i => (ot.getD ((symsK cs cs.length).getD i 0) 0).toNat := ⟨_, rfl⟩
    have hlj : ∀ j, j < cs.length → 0 < cs.getD j 0 → (lam (leaf cs j) : Int) = ot.getD j 0 := fun j hj hpj => by
      rw [hlam]
      dsimp only
      rw [sym_leaf hj hpj]
      have := hop j
      omega
    have e1 : costS cs (toI (depths cs)) = cst (wt (nodes0 cs)) (Dp (tree cs)) (List.range (nodes0 cs).length) := by
      unfold cst costS
      rw [← leaf_all, ← sm_leaf cs _ cs.length (Nat.le_refl _)]
      refine Sm_congr (fun j hj => ?_)
      have hj' : j < cs.length := by simpa using hj
      have h3 := ln_depths (cs := cs) j
      rw [if_pos hj'] at h3
      unfold ln at h3
      rw [h3]
      by_cases hpj : 0 < cs.getD j 0
      · rw [if_pos hpj, wt_leaf' hj' hpj, dAt_pos hpj]
        have := Dp_pos h h2 (leaf_lt' hj' hpj)
        rw [Nat.max_eq_left this]
      · rw [if_neg hpj]
        have : cs.getD j 0 = 0 := by have := cs_nn h j; omega
        rw [this]; simp
    have e2 : costS cs ot = cst (wt (nodes0 cs)) lam (List.range (nodes0 cs).length) := by
      unfold cst costS
      rw [← leaf_all, ← sm_leaf cs _ cs.length (Nat.le_refl _)]
      refine Sm_congr (fun j hj => ?_)
      have hj' : j < cs.length := by simpa using hj
      by_cases hpj : 0 < cs.getD j 0
      · rw [if_pos hpj, wt_leaf' hj' hpj, hlj j hj' hpj]
      · rw [if_neg hpj]
        have : cs.getD j 0 = 0 := by have := cs_nn h j; omega
        rw [this]; simp
    have e3 : krf 15 lam (List.range (nodes0 cs).length) ≤ pk 15 0 := by
      refine Int.le_trans ?_ (show room ot ≤ pk 15 0 from ok_room ho)
      rw [room_sum, sumR_sm, hl]
      unfold krf
      rw [← leaf_all, ← sm_leaf cs _ cs.length (Nat.le_refl _)]
      refine Sm_le (fun j hj => ?_)
      have hj' : j < cs.length := by simpa using hj
      by_cases hpj : 0 < cs.getD j 0
      · rw [if_pos hpj]
        have h5 := hp j hj' hpj
        have h6 := hop j
        have h7 := hlj j hj' hpj
        unfold pj ln
        rw [if_pos (by omega)]
        have : (ot.getD j 0).toNat = lam (leaf cs j) := by omega
        rw [this]
        simp [pk, p2]
      · rw [if_neg hpj]; omega
    rw [e1, e2, (tree_run h 15 (by omega)).1]
    refine best_run 15 _ _ _ _ _ lam (TI.start h) (fun v hv => ?_) e3
    rw [hlam]
    dsimp only
    have := hop ((symsK cs cs.length).getD v 0)
    omega
end
/-- what the lengths are: the depths of counts that come where the first ones come -/
theorem lens_spec : ∀ (f : Nat) (cs : List Int), okC cs → cs.sum.toNat ≤ f → ∃ cs', okC cs' ∧ cs'.length = cs.length ∧ (∀ j, j < cs.length → (cs'.getD j 0 = 0 ↔ cs.getD j 0 = 0)) ∧ dMost cs' cs'.length ≤ 15 ∧ lensF f cs = depths cs'
  | 0, cs, h, hf => by
    refine ⟨cs, h, rfl, fun j _ => Iff.rfl, ?_, rfl⟩
    have hf15 : fib 15 = 1597 := by decide
    have h0 := (sum_half cs (fun n hn => (h.2 n hn).1)).1
    exact dMost_le cs 15 (dAt_small (fun n hn => (h.2 n hn).1) (by omega)) cs.length (Nat.le_refl _)
  | f + 1, cs, h, hf => by
    rw [lensF]
    split
    · rename_i hd
      exact ⟨cs, h, rfl, fun j _ => Iff.rfl, hd, rfl⟩
    · rename_i hd
      have hlt := deep_half (fun n hn => (h.2 n hn).1) h.1 (by omega)
      have h0 := (sum_half cs (fun n hn => (h.2 n hn).1)).1
      have h1 := (sum_half (cs.map half) (fun n hn => ((okC_half h).2 n hn).1)).1
      obtain ⟨cs', k1, k2, k3, k4, k5⟩ := lens_spec f (cs.map half) (okC_half h) (by omega)
      refine ⟨cs', k1, by rw [k2, List.length_map], fun j hj => ?_, k4, k5⟩
      rw [k3 j (by rw [List.length_map]; exact hj)]
      have e1 : (cs.map half).getD j 0 = half cs[j] := by simp [List.getD, hj]
      have e2 : cs.getD j 0 = cs[j] := by simp [List.getD, hj]
      rw [e1, e2]
      exact (half_le (h.2 _ (List.getElem_mem hj)).1).2.2.2
theorem dMost_at {cs : List Int} (h : dMost cs cs.length ≤ 15) : ∀ j, j < cs.length → dAt cs j ≤ 15 := fun j hj => by
  have := dMost_ge cs cs.length j hj
  omega
/-- the lengths of counts: a code's, of just those that come -/
theorem lens_ok {cs : List Int} (h : okC cs) : okL (toI (lens cs)) ∧ (toI (lens cs)).length = cs.length ∧ ∀ j, j < cs.length → ((toI (lens cs)).getD j 0 = 0 ↔ cs.getD j 0 = 0) := by
  obtain ⟨cs', k1, k2, k3, k4, k5⟩ := lens_spec cs.sum.toNat cs h (Nat.le_refl _)
  unfold lens
  rw [k5]
  refine ⟨depths_ok (fun n hn => (k1.2 n hn).1) k1.1 (dMost_at k4), by rw [depths_len, k2], fun j hj => ?_⟩
  rw [← k3 j hj]
  exact (ln_depths_pos (fun n hn => (k1.2 n hn).1) (by omega)).2
theorem lens_flat {cs : List Int} (h : dMost cs cs.length ≤ 15) : lens cs = depths cs := by
  unfold lens
  cases cs.sum.toNat with
  | zero => rfl
  | succ f => rw [lensF, if_pos h]
end Go.Huf
set_option linter.unusedVariables false
set_option linter.unusedSimpArgs false
namespace Go.Cod
open Go.Huf
theorem okC_cntA {l : List Tk} (h : l.length ≤ 100000) : okC (cntA l) := ⟨by rw [cntA_len]; omega, fun n hn => by have := cntA_bd l n hn; omega⟩
theorem okC_cntD {l : List Tk} (h : l.length ≤ 100000) : okC (cntD l) := ⟨by rw [cntD_len]; omega, fun n hn => by have := cntD_bd l n hn; omega⟩
theorem lenA_ok {l : List Tk} (h : l.length ≤ 100000) : okL (lenA l) ∧ (lenA l).length = 511 ∧ ∀ j, j < 511 → ((lenA l).getD j 0 = 0 ↔ (cntA l).getD j 0 = 0) := by
  have := lens_ok (okC_cntA h)
  rw [cntA_len] at this
  exact this
theorem lenD_ok {l : List Tk} (h : l.length ≤ 100000) : okL (lenD l) ∧ (lenD l).length = 13 ∧ ∀ j, j < 13 → ((lenD l).getD j 0 = 0 ↔ (cntD l).getD j 0 = 0) := by
  have := lens_ok (okC_cntD h)
  rw [cntD_len] at this
  exact this
theorem good_255 {ls : List Int} (h : okL ls) : ∀ n ∈ ls, 0 ≤ n ∧ n ≤ 255 := fun n hn => by have := h.2.1 n hn; omega
end Go.Cod
namespace Go.Proofs.Ytiejjbdmkgdniaa
open Go.RowKit Go.Sal Go.Huf Go.Cod
theorem own_src {w : World} {base e size n c : Nat} {A : Option Addr} {xs : List Value} (h : w.ownsRow base e size (.slice A n c) n xs) : Src w size A n xs := by
  refine ⟨h.1, fun h0 => ?_⟩
  obtain ⟨g, rfl, _, _⟩ := own_some h h0
  exact ⟨_, rfl, h.cells (g := g) rfl⟩
theorem bools_append {base b0 n m c c2 : Nat} {A A2 : Option Addr} {f l2 : List Bool} {w : World} (h : w.ownsRow base 4 1 (.slice A n c) n (inL f)) (h2 : w.ownsRow b0 4 1 (.slice A2 m c2) m (inL l2)) (hn2 : n + m ≤ 10000000) (hB : base ≤ w.heap.size) :
    ∃ A' c' w', (Builtin.append_ #[74, 74] 74 #[.slice A n c, .slice A2 m c2]).run Try.prog w = .ok (.slice A' (n + m) c') w' ∧
      w'.ownsRow base 4 1 (.slice A' (n + m) c') (n + m) (inL (f ++ l2)) ∧ Keep (Value.slice A n c).ownBlock.toList w w' := by
  obtain ⟨v', w', hrun, hown, hg, hat⟩ := run_append_src (P := Try.prog) w 74 74 4 (.bool false) 1 1 base Try.underlying74 boolinfo rfl (by omega) (.slice A n c) n (inL f) h
    A2 m c2 (inL l2) (own_src h2) (inL_one l2) (by unfold maxLen; omega) (by omega) hB
  obtain ⟨A', c', rfl, _⟩ := own_slice hown
  exact ⟨A', c', w', hrun, by simpa [inL] using hown, (Keep.refl _ w).grown hg (fun k hk => .inl (by simp [hk]))⟩
/-- lengths and codes in memory -/
structure LC (w : World) (ls : List Int) (A : Option Addr) (c : Nat) (AC : Option Addr) (cC : Nat) (wr : World) : Prop where
  len : wr.ownsRow w.heap.size 3 1 (.slice A ls.length c) ls.length (inI ls)
  cod : wr.ownsRow w.heap.size 68 1 (.slice AC ls.length cC) ls.length (inU (codesL ls))
theorem LC.keep {w wr w1 : World} {ls : List Int} {A AC : Option Addr} {c cC : Nat} (h : LC w ls A c AC cC wr) {F : List Nat} (k : Keep F wr w1) (h1 : ∀ g, (Value.slice A ls.length c).ownBlock = some g → g ∉ F) (h2 : ∀ g, (Value.slice AC ls.length cC).ownBlock = some g → g ∉ F) : LC w ls A c AC cC w1 :=
  ⟨ownsRow_keep h.len k h1, ownsRow_keep h.cod k h2⟩
theorem LC.at_ {w wr : World} {ls : List Int} {A AC : Option Addr} {c cC : Nat} (h : LC w ls A c AC cC wr) {s : Nat} (hs : s < ls.length) : ∃ g gc, A = some ⟨g, 0, none⟩ ∧ AC = some ⟨gc, 0, none⟩ ∧ g < wr.heap.size ∧ gc < wr.heap.size ∧ w.heap.size ≤ g ∧ w.heap.size ≤ gc ∧
    wr.cell? ⟨g, s, none⟩ = some (.int .i64 ls[s]) ∧ wr.cell? ⟨gc, s, none⟩ = some (.int .u16 (codeV ls s : Nat)) := by
  obtain ⟨g, rfl, h1, h2⟩ := own_some h.len (by omega)
  obtain ⟨gc, rfl, h3, h4⟩ := own_some h.cod (by omega)
  refine ⟨g, gc, rfl, rfl, h1, h3, h2, h4, (inI_cell h.len hs).1, ?_⟩
  rw [(inU_cell h.cod (i := s) (by rw [codesL_len]; omega)).1]
  simp [codesL]
theorem LC.cells {w wr : World} {ls : List Int} {g gc c cC : Nat} (h : LC w ls (some ⟨g, 0, none⟩) c (some ⟨gc, 0, none⟩) cC wr) {s : Nat} (hs : s < ls.length) : g < wr.heap.size ∧ gc < wr.heap.size ∧
    wr.cell? ⟨g, s, none⟩ = some (.int .i64 ls[s]) ∧ wr.cell? ⟨gc, s, none⟩ = some (.int .u16 (codeV ls s : Nat)) := by
  obtain ⟨g', gc', e1, e2, h1, h2, _, _, h3, h4⟩ := h.at_ hs
  injection e1 with e1
  injection e1 with e1
  injection e2 with e2
  injection e2 with e2
  subst e1; subst e2
  exact ⟨h1, h2, h3, h4⟩
structure RPI (w : World) (la lb : List Int) (hd : List Nat) (AA : Option Addr) (cA : Nat) (AC : Option Addr) (cC : Nat) (AD : Option Addr) (cD : Nat) (AE : Option Addr) (cE : Nat) (AO : Option Addr) (cO : Nat) (bs : List Bool) (A : Option Addr) (c : Nat) (wr : World) : Prop where
  own : wr.ownsRow w.heap.size 4 1 (.slice A bs.length c) bs.length (inL bs)
  a : LC w la AA cA AC cC wr
  b : LC w lb AD cD AE cE wr
  hdr : wr.ownsRow w.heap.size 5 1 (.slice AO hd.length cO) hd.length (inB hd)
  kp : Keep [] w wr
section
variable {w wr w1 : World} {la lb : List Int} {hd : List Nat} {AA AC AD AE AO A : Option Addr} {cA cC cD cE cO c : Nat} {bs : List Bool}
theorem RPI.keep (h : RPI w la lb hd AA cA AC cC AD cD AE cE AO cO bs A c wr) (k : Keep [] wr w1) : RPI w la lb hd AA cA AC cC AD cD AE cE AO cO bs A c w1 :=
  ⟨ownsRow_keep h.own k (by simp), h.a.keep k (by simp) (by simp), h.b.keep k (by simp) (by simp), ownsRow_keep h.hdr k (by simp), h.kp.trans k⟩
/-- a symbol's bits made, and laid behind -/
theorem RPI.bits (h : RPI w la lb hd AA cA AC cC AD cD AE cE AO cO bs A c wr) {cv L : Nat} (hc : cv < 65536) (hL : L ≤ 15) (hl : bs.length ≤ 5000000) (w0 : World) (hw0 : Keep [] wr w0) :
    Calls Try.prog 40 #[.int .u16 (cv : Nat), .int .i64 (L : Nat)] w0 fun e w' => ∃ AO', e = .returned (.slice AO' L L) ∧ Keep [] wr w' ∧ ∃ A' c' w'', (Builtin.append_ #[74, 74] 74 #[.slice A bs.length c, .slice AO' L L]).run Try.prog w' = .ok (.slice A' (bs.length + L) c') w'' ∧
      RPI w la lb hd AA cA AC cC AD cD AE cE AO cO (bs ++ bitsK cv L) A' c' w'' := by
  refine (rbits_any cv L w0 hc (by omega)).mono ?_
  rintro e w' ⟨AO', rfl, hown, hk⟩
  have hk' : Keep [] wr w' := hw0.trans hk
  have h' := h.keep hk'
  obtain ⟨A', c', w'', hrun, hown2, hk2⟩ := bools_append h'.own hown (by omega) h'.kp.size
  have hll : bs.length + L = (bs ++ bitsK cv L).length := by rw [List.length_append, bitsK_len]
  refine ⟨AO', rfl, hk', A', c', w'', hrun, ?_, ?_, ?_, ?_, h'.kp.step hk2 (fun j hj => .inr (own_far h'.own j hj))⟩
  · rw [← hll]; exact hown2
  · exact h'.a.keep hk2 (fun i hi hm => own_ne_own h'.a.len h'.own (by decide) hi (by simpa using hm)) (fun i hi hm => own_ne_own h'.a.cod h'.own (by decide) hi (by simpa using hm))
  · exact h'.b.keep hk2 (fun i hi hm => own_ne_own h'.b.len h'.own (by decide) hi (by simpa using hm)) (fun i hi hm => own_ne_own h'.b.cod h'.own (by decide) hi (by simpa using hm))
  · exact ownsRow_keep h'.hdr hk2 (fun i hi hm => own_ne_own h'.hdr h'.own (by decide) hi (by simpa using hm))
end
theorem isrc_own {w : World} {base n c : Nat} {A : Option Addr} {l : List Int} (h : w.ownsRow base 3 1 (.slice A n c) n (inI l)) : ISrc w A l := ISrc.of_own h
/-- lengths of what was counted -/
theorem rlenA_any {w w2 w0 : World} {l : List Tk} {ga gb : Nat} (h : TCI w l l.length ga gb w2) (hl : l.length ≤ 100000) (k : Keep [] w2 w0) :
    Calls Try.prog 35 #[.slice (some ⟨ga, 0, none⟩) 511 511] w0 fun e w' => ∃ A c, e = .returned (.tuple #[.slice A (lenA l).length c, .int .i64 0]) ∧ w'.ownsRow w0.heap.size 3 1 (.slice A (lenA l).length c) (lenA l).length (inI (lenA l)) ∧ Keep [] w0 w' := by
  have h1 := ownsRow_keep h.1 k (by simp)
  rw [List.take_length] at h1
  have := rlengths_ok (cntA l) (some ⟨ga, 0, none⟩) 511 w0 (isrc_own h1) (okC_cntA hl)
  rw [cntA_len] at this
  refine this.mono ?_
  rintro e w' ⟨AO, cO, rfl, hown, hk⟩
  have hl := own_n hown
  rw [hl] at hown ⊢
  exact ⟨AO, cO, rfl, hown, hk⟩
theorem rlenD_any {w w2 w0 : World} {l : List Tk} {ga gb : Nat} (h : TCI w l l.length ga gb w2) (hl : l.length ≤ 100000) (k : Keep [] w2 w0) :
    Calls Try.prog 35 #[.slice (some ⟨gb, 0, none⟩) 13 13] w0 fun e w' => ∃ A c, e = .returned (.tuple #[.slice A (lenD l).length c, .int .i64 0]) ∧ w'.ownsRow w0.heap.size 3 1 (.slice A (lenD l).length c) (lenD l).length (inI (lenD l)) ∧ Keep [] w0 w' := by
  have h1 := ownsRow_keep h.2.1 k (by simp)
  rw [List.take_length] at h1
  have := rlengths_ok (cntD l) (some ⟨gb, 0, none⟩) 13 w0 (isrc_own h1) (okC_cntD hl)
  rw [cntD_len] at this
  refine this.mono ?_
  rintro e w' ⟨AO, cO, rfl, hown, hk⟩
  have hl := own_n hown
  rw [hl] at hown ⊢
  exact ⟨AO, cO, rfl, hown, hk⟩
theorem lenA_any {w w2 w0 : World} {l : List Tk} {ga gb : Nat} (h : TCI w l l.length ga gb w2) (hl : l.length ≤ 100000) (k : Keep [] w2 w0) :
    Calls Try.prog 26 #[.slice (some ⟨ga, 0, none⟩) 511 511] w0 fun e w' => ∃ A c, e = .returned (.tuple #[.slice A (lenA l).length c, .int .i64 0]) ∧ w'.ownsRow w0.heap.size 3 1 (.slice A (lenA l).length c) (lenA l).length (inI (lenA l)) ∧ Keep [] w0 w' := by
  have h1 := ownsRow_keep h.1 k (by simp)
  rw [List.take_length] at h1
  have := lengths_ok (cntA l) (some ⟨ga, 0, none⟩) 511 w0 (isrc_own h1) (okC_cntA hl)
  rw [cntA_len] at this
  refine this.mono ?_
  rintro e w' ⟨AO, cO, rfl, hown, hk⟩
  have hl := own_n hown
  rw [hl] at hown ⊢
  exact ⟨AO, cO, rfl, hown, hk⟩
theorem lenD_any {w w2 w0 : World} {l : List Tk} {ga gb : Nat} (h : TCI w l l.length ga gb w2) (hl : l.length ≤ 100000) (k : Keep [] w2 w0) :
    Calls Try.prog 26 #[.slice (some ⟨gb, 0, none⟩) 13 13] w0 fun e w' => ∃ A c, e = .returned (.tuple #[.slice A (lenD l).length c, .int .i64 0]) ∧ w'.ownsRow w0.heap.size 3 1 (.slice A (lenD l).length c) (lenD l).length (inI (lenD l)) ∧ Keep [] w0 w' := by
  have h1 := ownsRow_keep h.2.1 k (by simp)
  rw [List.take_length] at h1
  have := lengths_ok (cntD l) (some ⟨gb, 0, none⟩) 13 w0 (isrc_own h1) (okC_cntD hl)
  rw [cntD_len] at this
  refine this.mono ?_
  rintro e w' ⟨AO, cO, rfl, hown, hk⟩
  have hl := own_n hown
  rw [hl] at hown ⊢
  exact ⟨AO, cO, rfl, hown, hk⟩
end Go.Proofs.Ytiejjbdmkgdniaa
