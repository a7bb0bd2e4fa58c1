/- The merge of two sorted rows, on lists alone: a split that falls apart; the search for it. -/
import Derived.Test.YtknjjodkpknglaaSoP
set_option linter.unusedVariables false
set_option linter.unusedSimpArgs false
namespace Go.Huf
section
variable {key : Nat → Int}
theorem srtd_get {l : List Nat} (h : srtd key l) {i j : Nat} (hij : i < j) (hj : j < l.length) : lexlt key (l.getD i 0) (l.getD j 0) := by
  have := List.pairwise_iff_getElem.1 h i j (by omega) hj hij
  simpa [List.getD, hj, show i < l.length by omega] using this
theorem srtd_le {l : List Nat} (h : srtd key l) {i j : Nat} (hij : i ≤ j) (hj : j < l.length) : lexlt key (l.getD i 0) (l.getD j 0) ∨ l.getD i 0 = l.getD j 0 := by
  rcases Nat.lt_or_eq_of_le hij with h1 | rfl
  · exact .inl (srtd_get h h1 hj)
  · exact .inr rfl
theorem lex_le_trans {x y z : Nat} (h1 : lexlt key x y ∨ x = y) (h2 : lexlt key y z) : lexlt key x z := by
  rcases h1 with h1 | rfl
  · exact lex_trans h1 h2
  · exact h2
theorem lex_trans_le {x y z : Nat} (h1 : lexlt key x y) (h2 : lexlt key y z ∨ y = z) : lexlt key x z := by
  rcases h2 with h2 | rfl
  · exact lex_trans h1 h2
  · exact h1
theorem take_getD {l : List Nat} {s : Nat} {x : Nat} (h : x ∈ l.take s) : ∃ i, i < s ∧ i < l.length ∧ x = l.getD i 0 := by
  obtain ⟨i, hi, rfl⟩ := List.mem_iff_getElem.1 h
  rw [List.length_take] at hi
  exact ⟨i, by omega, by omega, by simp [List.getD, show i < l.length by omega]⟩
theorem drop_getD {l : List Nat} {s : Nat} {x : Nat} (h : x ∈ l.drop s) : ∃ i, s ≤ i ∧ i < l.length ∧ x = l.getD i 0 := by
  obtain ⟨i, hi, rfl⟩ := List.mem_iff_getElem.1 h
  rw [List.length_drop] at hi
  exact ⟨s + i, by omega, by omega, by simp [List.getD, show s + i < l.length by omega]⟩
theorem getD_mem {l : List Nat} {i : Nat} (h : i < l.length) : l.getD i 0 ∈ l := by simp [List.getD, h]
theorem sym_nodup {A B : List Nat} (hA : srtd key A) (hB : srtd key B) (hlt : ∀ x ∈ A, ∀ y ∈ B, x < y) : (A ++ B).Nodup :=
  List.nodup_append.2 ⟨srtd_nodup hA, srtd_nodup hB, fun a ha b hb => by have := hlt a ha b hb; omega⟩
theorem split_perm (A B : List Nat) (s e : Nat) : (A.take s ++ B.take e ++ (A.drop s ++ B.drop e)).Perm (A ++ B) := by
  have h1 : (A.take s ++ B.take e ++ (A.drop s ++ B.drop e)).Perm (A.take s ++ A.drop s ++ (B.take e ++ B.drop e)) := by
    rw [List.append_assoc, List.append_assoc]
    refine List.Perm.append_left _ ?_
    rw [← List.append_assoc, ← List.append_assoc]
    exact List.Perm.append_right _ List.perm_append_comm
  rwa [List.take_append_drop, List.take_append_drop] at h1
theorem sym_split {A B : List Nat} (hA : srtd key A) (hB : srtd key B) (hlt : ∀ x ∈ A, ∀ y ∈ B, x < y) {s e : Nat} (hs : s ≤ A.length) (he : e ≤ B.length)
    (h1 : 0 < s → e < B.length → ¬ lexlt key (B.getD e 0) (A.getD (s - 1) 0)) (h2 : 0 < e → s < A.length → lexlt key (B.getD (e - 1) 0) (A.getD s 0)) :
    isort key (A ++ B) = isort key (A.take s ++ B.take e) ++ isort key (A.drop s ++ B.drop e) := by
  have hnd := sym_nodup hA hB hlt
  have hp := split_perm A B s e
  rw [← isort_of_perm (hp.nodup_iff.2 hnd) hp]
  refine isort_append (hp.nodup_iff.2 hnd) (fun x hx y hy => ?_)
  rcases List.mem_append.1 hx with hx | hx
  · obtain ⟨i, hi, hi2, rfl⟩ := take_getD hx
    rcases List.mem_append.1 hy with hy | hy
    · obtain ⟨j, hj, hj2, rfl⟩ := drop_getD hy
      exact srtd_get hA (by omega) hj2
    · obtain ⟨j, hj, hj2, rfl⟩ := drop_getD hy
      have h3 := h1 (by omega) (by omega)
      have hne : A.getD (s - 1) 0 < B.getD e 0 := hlt _ (getD_mem (by omega)) _ (getD_mem (by omega))
      have h4 : lexlt key (A.getD (s - 1) 0) (B.getD e 0) := (lex_total (key := key) (by omega)).resolve_right h3
      exact lex_le_trans (srtd_le hA (by omega) (by omega)) (lex_trans_le h4 (srtd_le hB hj hj2))
  · obtain ⟨i, hi, hi2, rfl⟩ := take_getD hx
    rcases List.mem_append.1 hy with hy | hy
    · obtain ⟨j, hj, hj2, rfl⟩ := drop_getD hy
      have h3 := h2 (by omega) (by omega)
      exact lex_le_trans (srtd_le hB (by omega) (by omega)) (lex_trans_le h3 (srtd_le hA hj hj2))
    · obtain ⟨j, hj, hj2, rfl⟩ := drop_getD hy
      exact srtd_get hB (by omega) hj2
/-- while the split is searched -/
def SS (key : Nat → Int) (A B : List Nat) (mid lo hi st r : Nat) : Prop :=
  lo ≤ st ∧ st ≤ r ∧ r ≤ hi ∧ (∀ c, lo ≤ c → c < st → ¬ lexlt key (B.getD (mid - 1 - c) 0) (A.getD c 0)) ∧ ∀ c, r ≤ c → c < hi → lexlt key (B.getD (mid - 1 - c) 0) (A.getD c 0)
theorem ss_mono {A B : List Nat} (hA : srtd key A) (hB : srtd key B) {mid c c' : Nat} (hcc : c' ≤ c) (hc : c < A.length) (hcm : c < mid) (hb : mid - 1 - c' < B.length)
    (h : lexlt key (B.getD (mid - 1 - c') 0) (A.getD c' 0)) : lexlt key (B.getD (mid - 1 - c) 0) (A.getD c 0) :=
  lex_le_trans (srtd_le hB (by omega) hb) (lex_trans_le h (srtd_le hA hcc hc))
theorem SS.up {A B : List Nat} {mid lo hi st r : Nat} (h : SS key A B mid lo hi st r) (hA : srtd key A) (hB : srtd key B) (hhi : hi ≤ A.length ∧ hi ≤ mid) (hlo : mid ≤ lo + B.length) {c : Nat} (h1 : st ≤ c) (h2 : c < r)
    (hc : ¬ lexlt key (B.getD (mid - 1 - c) 0) (A.getD c 0)) : SS key A B mid lo hi (c + 1) r := by
  obtain ⟨a1, a2, a3, a4, a5⟩ := h
  refine ⟨by omega, by omega, a3, fun c' h3 h4 hl => hc (ss_mono hA hB (by omega) (by omega) (by omega) (by omega) hl), a5⟩
theorem SS.down {A B : List Nat} {mid lo hi st r : Nat} (h : SS key A B mid lo hi st r) (hA : srtd key A) (hB : srtd key B) (hhi : hi ≤ A.length ∧ hi ≤ mid) (hlo : mid ≤ lo + B.length) {c : Nat} (h1 : st ≤ c) (h2 : c < r)
    (hc : lexlt key (B.getD (mid - 1 - c) 0) (A.getD c 0)) : SS key A B mid lo hi st c := by
  obtain ⟨a1, a2, a3, a4, a5⟩ := h
  refine ⟨a1, by omega, by omega, a4, fun c' h3 h4 => ss_mono hA hB h3 (by omega) (by omega) (by omega) hc⟩
theorem SS.done {A B : List Nat} {mid lo hi s : Nat} (h : SS key A B mid lo hi s s) (hA : srtd key A) (hB : srtd key B) (hlt : ∀ x ∈ A, ∀ y ∈ B, x < y) (hhi : hi = min mid A.length) (hlo : lo = mid - B.length) :
    isort key (A ++ B) = isort key (A.take s ++ B.take (mid - s)) ++ isort key (A.drop s ++ B.drop (mid - s)) := by
  obtain ⟨a1, a2, a3, a4, a5⟩ := h
  refine sym_split hA hB hlt (by omega) (by omega) (fun h1 h2 => ?_) (fun h1 h2 => ?_)
  · have := a4 (s - 1) (by omega) (by omega)
    rwa [show mid - 1 - (s - 1) = mid - s by omega] at this
  · have := a5 s (by omega) (by omega)
    rwa [show mid - 1 - s = mid - s - 1 by omega] at this
/-- one against a row: it goes in at i -/
theorem one_in {x : Nat} {B : List Nat} (hB : srtd key B) (hn : x ∉ B) {i : Nat} (hi : i ≤ B.length) (h1 : ∀ k, k < i → lexlt key (B.getD k 0) x) (h2 : ∀ k, i ≤ k → k < B.length → ¬ lexlt key (B.getD k 0) x) (l : List Nat) (hl : l.Perm (x :: B)) :
    isort key l = B.take i ++ x :: B.drop i := by
  symm
  refine isort_eq ?_ ?_
  · have hs : srtd key (B.take i ++ B.drop i) := by rw [List.take_append_drop]; exact hB
    have h := List.pairwise_append.1 hs
    refine List.pairwise_append.2 ⟨h.1, List.pairwise_cons.2 ⟨fun y hy => ?_, h.2.1⟩, fun a ha b hb => ?_⟩
    · have hm := List.mem_of_mem_drop hy
      obtain ⟨j, hj, hj2, rfl⟩ := drop_getD hy
      exact (lex_total (key := key) (fun e => hn (by rw [e]; exact hm))).resolve_right (h2 j hj hj2)
    · rcases List.mem_cons.1 hb with rfl | hb
      · obtain ⟨j, hj, hj2, rfl⟩ := take_getD ha
        exact h1 j hj
      · exact h.2.2 a ha b hb
  · refine List.perm_middle.trans ?_
    rw [List.take_append_drop]
    exact hl.symm
end
end Go.Huf
