/- The codes of lengths, on lists alone: by the room that what stands ahead takes. -/
import Derived.Test.YtknjjodkpknglaaSoP
import Derived.Test.YtknjjodkpknglaaHfC
set_option linter.unusedVariables false
set_option linter.unusedSimpArgs false
namespace Go.Huf
def sumR (f : Nat → Nat) : Nat → Nat
  | 0 => 0
  | m + 1 => sumR f m + f m
theorem sumR_eq (f : Nat → Nat) : ∀ m, ((List.range m).map f).sum = sumR f m
  | 0 => rfl
  | m + 1 => by rw [List.range_succ, List.map_append, List.sum_append, sumR_eq f m]; simp [sumR]
theorem sumR_congr {f g : Nat → Nat} : ∀ m, (∀ j, j < m → f j = g j) → sumR f m = sumR g m
  | 0, _ => rfl
  | m + 1, h => by rw [sumR, sumR, sumR_congr m (fun j hj => h j (by omega)), h m (by omega)]
theorem sumR_le {f g : Nat → Nat} : ∀ m, (∀ j, j < m → f j ≤ g j) → sumR f m ≤ sumR g m
  | 0, _ => Nat.le_refl _
  | m + 1, h => by
    have := sumR_le m (fun j hj => h j (by omega))
    have := h m (by omega)
    rw [sumR, sumR]; omega
theorem sumR_add (f g : Nat → Nat) : ∀ m, sumR (fun j => f j + g j) m = sumR f m + sumR g m
  | 0 => rfl
  | m + 1 => by rw [sumR, sumR, sumR, sumR_add f g m]; omega
theorem sumR_point (i c : Nat) : ∀ m, sumR (fun j => if j = i then c else 0) m = if i < m then c else 0
  | 0 => by simp [sumR]
  | m + 1 => by
    rw [sumR, sumR_point i c m]
    by_cases h : m = i
    · subst h; simp
    · rw [if_neg h]
      by_cases h2 : i < m
      · rw [if_pos h2, if_pos (by omega)]; rfl
      · rw [if_neg h2, if_neg (by omega)]
theorem sumR_zero {f : Nat → Nat} : ∀ m, (∀ j, j < m → f j = 0) → sumR f m = 0
  | 0, _ => rfl
  | m + 1, h => by rw [sumR, sumR_zero m (fun j hj => h j (by omega)), h m (by omega)]
theorem sumR_dvd {f : Nat → Nat} {d : Nat} : ∀ m, (∀ j, j < m → d ∣ f j) → d ∣ sumR f m
  | 0, _ => Nat.dvd_zero _
  | m + 1, h => by rw [sumR]; exact Nat.dvd_add (sumR_dvd m (fun j hj => h j (by omega))) (h m (by omega))
theorem sum_filter (p : Nat → Bool) (f : Nat → Nat) : ∀ l : List Nat, ((l.filter p).map f).sum = (l.map fun j => if p j then f j else 0).sum
  | [] => rfl
  | x :: l => by
    have ih := sum_filter p f l
    cases h : p x with
    | true => rw [List.filter_cons_of_pos h, List.map_cons, List.sum_cons, ih, List.map_cons, List.sum_cons, if_pos h]
    | false => rw [List.filter_cons_of_neg (by simp [h]), ih, List.map_cons, List.sum_cons, if_neg (by simp [h])]; omega
/-- the length of symbol j -/
abbrev ln (ls : List Int) (j : Nat) : Int := ls.getD j 0
theorem ln_eq {ls : List Int} {j : Nat} (h : j < ls.length) : ln ls j = ls[j] := by simp [ln, List.getD, h]
theorem ln_good {ls : List Int} (hg : good ls) (j : Nat) : 0 ≤ ln ls j ∧ ln ls j ≤ 15 := by
  rcases Nat.lt_or_ge j ls.length with h | h
  · rw [ln_eq h]; exact hg _ (List.getElem_mem h)
  · simp [ln, List.getD, h]
/-- the room that symbol j takes -/
def pj (ls : List Int) (j : Nat) : Nat := if 0 < ln ls j then p2 (ln ls j).toNat else 0
theorem p2_dvd {m n : Nat} (h : m ≤ n) : p2 n ∣ p2 m := by
  unfold p2
  exact Nat.pow_dvd_pow 2 (by omega)
theorem p2_pos (n : Nat) : 0 < p2 n := by have := p2_le n; omega
theorem p2_half {n : Nat} (h : n < 15) : p2 n = 2 * p2 (n + 1) := by
  unfold p2
  rw [show 15 - n = (15 - (n + 1)) + 1 by omega, Nat.pow_succ]
  omega
theorem p2_sub {m n : Nat} (h : m ≤ n) (h2 : n ≤ 15) : p2 m = p2 n * 2 ^ (n - m) := by
  unfold p2
  rw [← Nat.pow_add]
  congr 1
  omega
theorem p2_mul {n : Nat} (h : n ≤ 15) : p2 n * 2 ^ n = 32768 := by
  unfold p2
  rw [← Nat.pow_add, show 15 - n + n = 15 by omega]
theorem room_sum : ∀ (ls : List Int), room ls = (sumR (pj ls) ls.length : Nat) := by
  intro ls
  have key : ∀ m, m ≤ ls.length → room (ls.take m) = (sumR (pj ls) m : Nat) := by
    intro m
    induction m with
    | zero => intro _; simp [room, sumR]
    | succ m ih =>
      intro h
      rw [List.take_succ_eq_append_getElem (by omega), room_snoc, ih (by omega), sumR, pw, pj, ln_eq (by omega)]
      split <;> simp
  have := key ls.length (Nat.le_refl _)
  rwa [List.take_length] at this
/-- j stands ahead of place i among those of length n -/
def ahead (ls : List Int) (n : Nat) (i j : Nat) : Prop := ln ls j < n ∨ ln ls j = n ∧ j < i
instance (ls : List Int) (n i j : Nat) : Decidable (ahead ls n i j) := by unfold ahead; infer_instance
def preN (ls : List Int) (n i : Nat) : Nat := sumR (fun j => if ahead ls n i j then pj ls j else 0) ls.length
theorem preN_step {ls : List Int} {n i : Nat} (hn : 0 < n) (hi : i < ls.length) : preN ls n (i + 1) = preN ls n i + (if ln ls i = n then p2 n else 0) := by
  have h1 : (if ln ls i = n then p2 n else 0) = sumR (fun j => if j = i then (if ln ls i = n then p2 n else 0) else 0) ls.length := by rw [sumR_point, if_pos hi]
  rw [h1]
  unfold preN
  rw [← sumR_add]
  refine sumR_congr _ (fun j hj => ?_)
  by_cases hji : j = i
  · subst hji
    rw [if_pos rfl]
    by_cases hl : ln ls j = n
    · rw [if_pos hl, if_pos (show ahead ls n (j + 1) j from .inr ⟨hl, by omega⟩), if_neg (show ¬ ahead ls n j j by unfold ahead; omega)]
      unfold pj
      rw [if_pos (by omega), hl]
      simp
    · rw [if_neg hl]
      have : ahead ls n (j + 1) j ↔ ahead ls n j j := by unfold ahead; omega
      simp only [this]
      omega
  · rw [if_neg hji]
    have : ahead ls n (i + 1) j ↔ ahead ls n i j := by unfold ahead; omega
    simp only [this]
    omega
theorem preN_end {ls : List Int} {n : Nat} : preN ls n ls.length = preN ls (n + 1) 0 := by
  unfold preN
  refine sumR_congr _ (fun j hj => ?_)
  have : ahead ls n ls.length j ↔ ahead ls (n + 1) 0 j := by unfold ahead; omega
  simp only [this]
theorem preN_first {ls : List Int} : preN ls 1 0 = 0 := by
  unfold preN
  refine sumR_zero _ (fun j hj => ?_)
  by_cases h : ahead ls 1 0 j
  · rw [if_pos h]
    unfold pj
    rw [if_neg (by unfold ahead at h; omega)]
  · rw [if_neg h]
theorem preN_dvd {ls : List Int} {n i : Nat} : p2 n ∣ preN ls n i := by
  unfold preN
  refine sumR_dvd _ (fun j hj => ?_)
  split
  · rename_i h
    unfold pj
    split
    · exact p2_dvd (by unfold ahead at h; omega)
    · exact Nat.dvd_zero _
  · exact Nat.dvd_zero _
theorem preN_room {ls : List Int} {n i : Nat} : (preN ls n i : Int) ≤ room ls := by
  rw [room_sum]
  have : preN ls n i ≤ sumR (pj ls) ls.length := sumR_le _ (fun j hj => by split <;> omega)
  omega
theorem room_some : ∀ (ls : List Int), room ls ≤ 16384 * (some_ ls : Nat)
  | [] => by simp [room, some_]
  | x :: ls => by
    have ih := room_some ls
    have : pw x ≤ if 0 < x then 16384 else 0 := by
      unfold pw
      split
      · have h1 : p2 x.toNat ≤ p2 1 := Nat.le_of_dvd (p2_pos 1) (p2_dvd (by omega))
        have : p2 1 = 16384 := rfl
        omega
      · omega
    unfold room some_ at *
    rw [List.map_cons, List.sum_cons, List.countP_cons]
    by_cases h : 0 < x
    · simp only [h, if_true, decide_true] at *
      omega
    · simp only [h, if_false, decide_false, Bool.false_eq_true] at *
      omega
theorem ok_room {ls : List Int} (h : okL ls) : room ls ≤ 32768 := by
  have := room_some ls
  rcases h.2.2 with h | ⟨h, _⟩ | h <;> omega
/-- the code of symbol s -/
def codeV (ls : List Int) (s : Nat) : Nat := if 0 < ln ls s then preN ls (ln ls s).toNat s / p2 (ln ls s).toNat else 0
def codesL (ls : List Int) : List Nat := (List.range ls.length).map (codeV ls)
theorem codesL_len (ls : List Int) : (codesL ls).length = ls.length := by simp [codesL]
/-- a code has as many bits as said -/
theorem codeV_lt {ls : List Int} (h : okL ls) {s : Nat} (hs : s < ls.length) (hp : 0 < ln ls s) : codeV ls s < 2 ^ (ln ls s).toNat := by
  unfold codeV
  rw [if_pos hp]
  obtain ⟨n, hn⟩ : ∃ n : Nat, ln ls s = n := ⟨(ln ls s).toNat, by omega⟩
  have hl := ln_good h.2.1 s
  have h1 := preN_step (ls := ls) (n := n) (i := s) (by omega) hs
  rw [if_pos hn] at h1
  have h2 := preN_room (ls := ls) (n := n) (i := s + 1)
  have h3 := ok_room h
  rw [hn]
  simp only [Int.toNat_natCast]
  rw [Nat.div_lt_iff_lt_mul (p2_pos n)]
  have h4 := p2_mul (n := n) (by omega)
  have h5 := p2_pos n
  have h6 : 2 ^ n * p2 n = 32768 := by rw [Nat.mul_comm]; exact h4
  omega
theorem codeV_small {ls : List Int} (h : okL ls) {s : Nat} (hs : s < ls.length) : codeV ls s < 32768 := by
  by_cases hp : 0 < ln ls s
  · have h1 := codeV_lt h hs hp
    have hl := ln_good h.2.1 s
    have : 2 ^ (ln ls s).toNat ≤ 2 ^ 15 := Nat.pow_le_pow_right (by omega) (by omega)
    omega
  · unfold codeV; rw [if_neg hp]; omega
/-! ### along the row by length -/
def pl (ls : List Int) (l : List Nat) : Nat := (l.map (pj ls)).sum
theorem filter_take {key : Nat → Int} {l : List Nat} (h : srtd key l) {i : Nat} (hi : i < l.length) : l.filter (fun j => decide (lexlt key j l[i])) = l.take i := by
  have hp := List.pairwise_iff_getElem.1 h
  have e0 : l.filter (fun j => decide (lexlt key j l[i])) = (l.take i).filter (fun j => decide (lexlt key j l[i])) ++ (l.drop i).filter (fun j => decide (lexlt key j l[i])) := by
    rw [← List.filter_append, List.take_append_drop]
  rw [e0]
  have h1 : (l.take i).filter (fun j => decide (lexlt key j l[i])) = l.take i := by
    rw [List.filter_eq_self]
    intro x hx
    obtain ⟨j, hj, rfl⟩ := List.mem_iff_getElem.1 hx
    rw [List.length_take] at hj
    rw [List.getElem_take]
    simpa using hp j i (by omega) hi (by omega)
  have h2 : (l.drop i).filter (fun j => decide (lexlt key j l[i])) = [] := by
    rw [List.filter_eq_nil_iff]
    intro x hx
    obtain ⟨j, hj, rfl⟩ := List.mem_iff_getElem.1 hx
    rw [List.length_drop] at hj
    rw [List.getElem_drop]
    rcases Nat.eq_zero_or_pos j with rfl | h0
    · simpa using lex_irrefl key _
    · simpa using lex_asymm (hp i (i + j) hi (by omega) (by omega))
  rw [h1, h2, List.append_nil]
theorem ord_srtd (ls : List Int) : srtd (fun i => ls.getD i 0) (ord ls) := isort_srtd ((symsK_inc ls ls.length).imp (fun h => by omega))
theorem ord_perm (ls : List Int) : (ord ls).Perm (symsK ls ls.length) := isort_perm _
theorem ord_mem {ls : List Int} {i : Nat} : i ∈ ord ls ↔ i < ls.length ∧ 0 < ls.getD i 0 := by
  rw [(ord_perm ls).mem_iff, symsK_mem]
theorem ord_pre {ls : List Int} (hg : good ls) {i : Nat} (hi : i < (ord ls).length) : preN ls (ln ls (ord ls)[i]).toNat (ord ls)[i] = pl ls ((ord ls).take i) := by
  rw [← filter_take (ord_srtd ls) hi]
  have hm := ord_mem.1 (List.getElem_mem hi)
  generalize (ord ls)[i] = s at *
  have h1 : pl ls ((ord ls).filter (fun j => decide (lexlt (fun i => ls.getD i 0) j s))) = pl ls ((symsK ls ls.length).filter (fun j => decide (lexlt (fun i => ls.getD i 0) j s))) :=
    List.Perm.sum_nat (((ord_perm ls).filter _).map _)
  rw [h1]
  unfold pl symsK
  rw [List.filter_filter, sum_filter, sumR_eq]
  unfold preN
  refine sumR_congr _ (fun j hj => ?_)
  have hgs := ln_good hg s
  by_cases hp : 0 < ls.getD j 0
  · have : ahead ls (ln ls s).toNat s j ↔ lexlt (fun i => ls.getD i 0) j s := by unfold ahead lexlt; dsimp only [ln] at *; omega
    simp only [this, hp, decide_true, Bool.and_true, decide_eq_true_eq]
  · have h0 : pj ls j = 0 := by unfold pj; rw [if_neg hp]
    rw [h0]
    simp
theorem pl_snoc (ls : List Int) (l : List Nat) (s : Nat) : pl ls (l ++ [s]) = pl ls l + pj ls s := by
  simp [pl, List.sum_append]
theorem ord_len_inc {ls : List Int} {i : Nat} (hi : i + 1 < (ord ls).length) : ln ls (ord ls)[i] ≤ ln ls (ord ls)[i + 1] := by
  have h := List.pairwise_iff_getElem.1 (ord_srtd ls) i (i + 1) (by omega) hi (by omega)
  unfold lexlt at h
  dsimp only [ln] at *
  omega
theorem code_first {ls : List Int} (hg : good ls) (hi : 0 < (ord ls).length) : codeV ls (ord ls)[0] = 0 := by
  unfold codeV
  split
  · rw [ord_pre hg hi]; simp [pl]
  · rfl
theorem code_next {ls : List Int} (hg : good ls) {i : Nat} (hi : i + 1 < (ord ls).length) :
    codeV ls (ord ls)[i + 1] = (codeV ls (ord ls)[i] + 1) * 2 ^ ((ln ls (ord ls)[i + 1]).toNat - (ln ls (ord ls)[i]).toNat) := by
  have hi0 : i < (ord ls).length := by omega
  have h1 := ord_pre hg hi0
  have h2 := ord_pre hg hi
  rw [List.take_succ_eq_append_getElem hi0, pl_snoc, ← h1] at h2
  have hle := ord_len_inc hi
  have hm1 := (ord_mem.1 (List.getElem_mem hi0)).2
  have hm2 := (ord_mem.1 (List.getElem_mem hi)).2
  generalize (ord ls)[i + 1] = t at *
  generalize (ord ls)[i] = s at *
  have hg1 := ln_good hg s
  have hg2 := ln_good hg t
  change 0 < ln ls s at hm1
  change 0 < ln ls t at hm2
  have hpj : pj ls s = p2 (ln ls s).toNat := by unfold pj; rw [if_pos hm1]
  have hd := preN_dvd (ls := ls) (n := (ln ls s).toNat) (i := s)
  unfold codeV
  rw [if_pos hm1, if_pos hm2, h2, hpj]
  generalize preN ls (ln ls s).toNat s = p at *
  obtain ⟨q, rfl⟩ := hd
  rw [Nat.mul_div_cancel_left _ (p2_pos _)]
  have hs := p2_sub (m := (ln ls s).toNat) (n := (ln ls t).toNat) (by omega) (by omega)
  rw [hs]
  have : p2 (ln ls t).toNat * 2 ^ ((ln ls t).toNat - (ln ls s).toNat) * q + p2 (ln ls t).toNat * 2 ^ ((ln ls t).toNat - (ln ls s).toNat) = p2 (ln ls t).toNat * ((q + 1) * 2 ^ ((ln ls t).toNat - (ln ls s).toNat)) := by
    rw [← Nat.mul_succ, Nat.mul_assoc, Nat.mul_comm (2 ^ _)]
  rw [this, Nat.mul_div_cancel_left _ (p2_pos _)]
/-- the row of codes, when the first k by length have theirs -/
def cRow (ls : List Int) (k : Nat) : List Nat := (List.range ls.length).map fun s => if s ∈ (ord ls).take k then codeV ls s else 0
theorem cRow_len (ls : List Int) (k : Nat) : (cRow ls k).length = ls.length := by simp [cRow]
theorem cRow_zero (ls : List Int) : cRow ls 0 = List.replicate ls.length 0 := by
  apply List.ext_getElem
  · simp [cRow]
  · intro i h1 h2; simp [cRow]
theorem cRow_succ {ls : List Int} {k : Nat} (hk : k < (ord ls).length) : (cRow ls k).set (ord ls)[k] (codeV ls (ord ls)[k]) = cRow ls (k + 1) := by
  apply List.ext_getElem
  · simp [cRow]
  · intro i h1 h2
    rw [List.getElem_set]
    simp only [cRow, List.getElem_map, List.getElem_range]
    split
    · rename_i h
      subst h
      rw [if_pos]
      rw [List.take_succ_eq_append_getElem hk]
      exact List.mem_append_right _ (List.mem_singleton.2 rfl)
    · rename_i h
      rw [List.take_succ_eq_append_getElem hk]
      simp only [List.mem_append, List.mem_singleton]
      have : ¬ i = (ord ls)[k] := fun e => h e.symm
      simp only [this, or_false]
theorem cRow_all (ls : List Int) : cRow ls (ord ls).length = codesL ls := by
  unfold cRow codesL
  rw [List.take_length]
  refine List.map_congr_left (fun s hs => ?_)
  have hs' : s < ls.length := by simpa using hs
  split
  · rfl
  · rename_i h
    rw [ord_mem] at h
    unfold codeV
    rw [if_neg]
    unfold ln
    intro hh
    exact h ⟨hs', hh⟩
end Go.Huf
