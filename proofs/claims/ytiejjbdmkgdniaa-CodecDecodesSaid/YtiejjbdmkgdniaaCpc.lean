/- How many bytes tokens have, packed: on lists alone. -/
import Derived.Test.YtiejjbdmkgdniaaCp6
import Derived.Test.YtiejjbdmkgdniaaK10
set_option linter.unusedVariables false
set_option linter.unusedSimpArgs false
namespace Go.Cod
open Go.Huf
def nz (l : List Int) : Nat := l.countP (fun x => decide (x ≠ 0))
theorem nz_cons (x : Int) (l : List Int) : nz (x :: l) = nz l + (if x ≠ 0 then 1 else 0) := by
  unfold nz
  rw [List.countP_cons]
  by_cases h : x = 0 <;> simp [h]
theorem nz_drop (l : List Int) : ∀ k, nz (l.drop k) ≤ nz l := by
  intro k
  have : nz l = nz (l.take k) + nz (l.drop k) := by
    unfold nz
    rw [← List.countP_append, List.take_append_drop]
  omega
theorem nz_set : ∀ (l : List Int) (k : Nat) (v : Int), nz (l.set k v) ≤ nz l + 1
  | [], k, v => by simp [nz]
  | x :: l, 0, v => by
    rw [List.set_cons_zero, nz_cons, nz_cons]
    split <;> omega
  | x :: l, k + 1, v => by
    have := nz_set l k v
    rw [List.set_cons_succ, nz_cons, nz_cons]
    omega
theorem nz_zero (n : Nat) : nz (List.replicate n 0) = 0 := by
  unfold nz
  rw [List.countP_eq_zero]
  intro x hx
  simp [(List.mem_replicate.1 hx).2]
theorem nz_same : ∀ (a b : List Int), a.length = b.length → (∀ s, s < a.length → (a.getD s 0 = 0 ↔ b.getD s 0 = 0)) → nz a = nz b
  | [], [], _, _ => rfl
  | [], _ :: _, h, _ => by simp at h
  | _ :: _, [], h, _ => by simp at h
  | x :: a, y :: b, h, hs => by
    have h0 := hs 0 (by simp)
    simp at h0
    have ih := nz_same a b (by simpa using h) (fun s hs' => by
      have := hs (s + 1) (by simpa using hs')
      simpa using this)
    rw [nz_cons, nz_cons, ih]
    by_cases hx : x = 0
    · rw [if_neg (by simp [hx]), if_neg (by simp [h0.1 hx])]
    · rw [if_pos hx, if_pos (fun q => hx (h0.2 q))]
theorem nz_cntA {l : List Tk} (h : ∀ t ∈ l, symT t < 511) : ∀ k, k ≤ l.length → nz (cntA (l.take k)) ≤ k
  | 0, _ => by rw [List.take_zero, cntA_nil, nz_zero]; exact Nat.le_refl _
  | k + 1, hk => by
    have ih := nz_cntA h k (by omega)
    rw [List.take_succ_eq_append_getElem hk, ← cntA_snoc _ _ (by rw [cntA_len]; exact h _ (List.getElem_mem hk)) rfl]
    exact Nat.le_trans (nz_set _ _ _) (by omega)
theorem nz_cntD {l : List Tk} (h : ∀ t ∈ l, 0 < t.1 → dsT t < 13) : ∀ k, k ≤ l.length → nz (cntD (l.take k)) ≤ k
  | 0, _ => by rw [List.take_zero, cntD_nil, nz_zero]; exact Nat.le_refl _
  | k + 1, hk => by
    have ih := nz_cntD h k (by omega)
    rw [List.take_succ_eq_append_getElem hk]
    by_cases hp : 0 < l[k].1
    · rw [← cntD_snoc _ _ (by rw [cntD_len]; exact h _ (List.getElem_mem hk) hp) hp rfl]
      exact Nat.le_trans (nz_set _ _ _) (by omega)
    · rw [cntD_same _ _ hp]
      omega
theorem varP_len2 {x : Nat} (h : x < 16384) : (varP x).length ≤ 2 := by
  unfold varP
  rw [varF]
  split
  · simp
  · rw [varF, if_pos (by omega)]
    simp
theorem runK_next (x : Int) : ∀ (l : List Int) (y : Int) (r : List Int), l.drop (runK x l) = y :: r → y ≠ x
  | [], y, r, h => by simp at h
  | z :: l, y, r, h => by
    unfold runK at h
    rw [List.takeWhile_cons] at h
    by_cases hz : z = x
    · rw [if_pos (by simpa using hz)] at h
      simp only [List.length_cons, List.drop_succ_cons] at h
      exact runK_next x l y r h
    · rw [if_neg (by simpa using hz)] at h
      simp at h
      rw [← h.1]
      exact hz
theorem runK_le2 (x : Int) (l : List Int) : runK x l ≤ l.length := by
  unfold runK
  exact (List.takeWhile_sublist _).length_le
/-- so many bytes as three for each run, and no more runs than twice the entries that are not 0, and one -/
theorem runF_len3 : ∀ (f : Nat) (l : List Int), l.length ≤ 10000 → (runF f l).length ≤ 6 * nz l + 3 ∧ ∀ x r, l = x :: r → x ≠ 0 → (runF f l).length ≤ 6 * nz l
  | 0, l, _ => by simp [runF]
  | f + 1, [], _ => by simp [runF]
  | f + 1, x :: l, hl => by
    simp at hl
    have hk := runK_le2 x l
    obtain ⟨i1, i2⟩ := runF_len3 f (l.drop (runK x l)) (by rw [List.length_drop]; omega)
    have hv := varP_len2 (x := runK x l + 1) (by omega)
    have hd := nz_drop l (runK x l)
    rw [runF]
    simp only [List.length_cons, List.length_append]
    rw [nz_cons]
    by_cases hx : x = 0
    · subst hx
      rw [if_neg (by simp)]
      refine ⟨?_, fun y r h hy => ?_⟩
      · cases hr : l.drop (runK 0 l) with
        | nil =>
          have h0 : (runF f ([] : List Int)).length = 0 := by cases f <;> simp [runF]
          rw [h0]
          omega
        | cons y r =>
          have := i2 y r hr (runK_next 0 l y r hr)
          rw [hr] at this hd
          omega
      · injection h with h1
        exact absurd h1.symm hy
    · rw [if_pos hx]
      exact ⟨by omega, fun _ _ _ _ => by omega⟩
theorem runsP_len3 {l : List Int} (h : l.length ≤ 10000) : (runsP l).length ≤ 6 * nz l + 3 := (runF_len3 _ l h).1
theorem runsP_ge {l : List Int} (h : 0 < l.length) : 2 ≤ (runsP l).length := by
  cases l with
  | nil => simp at h
  | cons x l =>
    unfold runsP
    rw [List.length_cons, runF]
    have hv : 1 ≤ (varP (runK x l + 1)).length := by
      unfold varP
      rw [varF]
      split <;> simp
    simp
    omega
theorem pack_small {l : List Tk} (hl : l.length ≤ 16000) (hs : sizeE l = 0) (hlit : litOk l) : (packP l).length ≤ 18 * l.length + 12 := by
  have hall : l.all okT = true := by
    unfold sizeE at hs
    split at hs
    · assumption
    · cases hs
  obtain ⟨a1, a2, a3⟩ := lenA_ok (l := l) (by omega)
  obtain ⟨d1, d2, d3⟩ := lenD_ok (l := l) (by omega)
  have e1 : nz (lenA l) ≤ l.length := by
    rw [nz_same (lenA l) (cntA l) (by rw [a2, cntA_len]) (fun s hs => a3 s (by omega))]
    have := nz_cntA (l := l) (fun t ht => symT_lt (List.all_eq_true.1 hall t ht) (hlit t ht)) l.length (Nat.le_refl _)
    rwa [List.take_length] at this
  have e2 : nz (lenD l) ≤ l.length := by
    rw [nz_same (lenD l) (cntD l) (by rw [d2, cntD_len]) (fun s hs => d3 s (by omega))]
    have := nz_cntD (l := l) (fun t ht hp => (dsT_lt (List.all_eq_true.1 hall t ht) hp).1) l.length (Nat.le_refl _)
    rwa [List.take_length] at this
  have h1 := runsP_len3 (l := lenA l) (by omega)
  have h2 := runsP_len3 (l := lenD l) (by omega)
  have h3 := varP_len2 (x := l.length) (by omega)
  have h4 := tokB_len (a1.2.1) (d1.2.1) hall
  unfold packP hdP
  simp only [List.length_append]
  rw [pack_len]
  omega
theorem packR_small {l : List Tk} (hl : l.length ≤ 16000) (hlit : litOk l) : (packR l).length ≤ 18 * l.length + 12 := by
  unfold packR
  split
  · rename_i h
    exact pack_small hl h hlit
  · simp
theorem pack_ge (l : List Tk) (hl : l.length ≤ 16000) : 2 ≤ (packP l).length := by
  have := runsP_ge (l := lenA l) (by rw [(lenA_ok (l := l) (by omega)).2.1]; omega)
  unfold packP hdP
  simp only [List.length_append]
  omega
theorem enc_ab : encP [97, 98] = [0, 2, 97, 98] := by
  obtain ⟨h1, h2⟩ := tok_size (b := [97, 98]) (by simp) (by simp)
  have h3 : (tokP [97, 98]).length ≤ 2 := tok_len 2 0
  have h4 := pack_ge (tokP [97, 98]) (by omega)
  unfold encP packR
  rw [if_pos h1, if_neg (by simp; omega)]
  rfl
set_option maxRecDepth 100000 in
theorem tok_zeros : (tokP (List.replicate 100 0)).length = 2 := by kernel_rfl
theorem enc_zeros : ∃ r, encP (List.replicate 100 0) = 1 :: r ∧ r.length < 59 := by
  obtain ⟨h1, h2⟩ := tok_size (b := List.replicate 100 0) (by intro x hx; simp [(List.mem_replicate.1 hx).2]) (by simp)
  have h3 := tok_zeros
  have h4 := pack_small (l := tokP (List.replicate 100 0)) (by omega) h1 h2
  have h5 := varP_len2 (x := 100) (by omega)
  unfold encP packR
  rw [if_pos h1, if_pos (by rw [List.length_replicate]; omega)]
  refine ⟨_, rfl, ?_⟩
  rw [List.length_append, List.length_replicate]
  omega
end Go.Cod
