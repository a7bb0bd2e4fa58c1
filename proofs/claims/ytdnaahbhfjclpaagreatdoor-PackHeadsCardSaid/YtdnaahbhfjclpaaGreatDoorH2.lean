/- The tree's least node taken out: slices.Delete of one. -/
import Derived.Test.YtdnaahbhfjclpaaGreatDoorHfC
import Derived.Test.YtdnaahbhfjclpaaGreatDoorWc
set_option linter.unusedVariables false
set_option linter.unusedSimpArgs false
namespace Go.Huf
def sumR (f : Nat → Nat) : Nat → Nat
  | 0 => 0
  | m + 1 => sumR f m + f m
theorem sumR_eq (f : Nat → Nat) : ∀ m, ((List.range m).map f).sum = sumR f m
  | 0 => rfl
  | m + 1 => by rw [List.range_succ, List.map_append, List.sum_append, sumR_eq f m]; simp [sumR]
theorem sumR_congr {f g : Nat → Nat} : ∀ m, (∀ j, j < m → f j = g j) → sumR f m = sumR g m
  | 0, _ => rfl
  | m + 1, h => by rw [sumR, sumR, sumR_congr m (fun j hj => h j (by omega)), h m (by omega)]
theorem sumR_le {f g : Nat → Nat} : ∀ m, (∀ j, j < m → f j ≤ g j) → sumR f m ≤ sumR g m
  | 0, _ => Nat.le_refl _
  | m + 1, h => by
    have := sumR_le m (fun j hj => h j (by omega))
    have := h m (by omega)
    rw [sumR, sumR]; omega
theorem sumR_add (f g : Nat → Nat) : ∀ m, sumR (fun j => f j + g j) m = sumR f m + sumR g m
  | 0 => rfl
  | m + 1 => by rw [sumR, sumR, sumR, sumR_add f g m]; omega
theorem sumR_point (i c : Nat) : ∀ m, sumR (fun j => if j = i then c else 0) m = if i < m then c else 0
  | 0 => by simp [sumR]
  | m + 1 => by
    rw [sumR, sumR_point i c m]
    by_cases h : m = i
    · subst h; simp
    · rw [if_neg h]
      by_cases h2 : i < m
      · rw [if_pos h2, if_pos (by omega)]; rfl
      · rw [if_neg h2, if_neg (by omega)]
theorem sumR_zero {f : Nat → Nat} : ∀ m, (∀ j, j < m → f j = 0) → sumR f m = 0
  | 0, _ => rfl
  | m + 1, h => by rw [sumR, sumR_zero m (fun j hj => h j (by omega)), h m (by omega)]
theorem sumR_dvd {f : Nat → Nat} {d : Nat} : ∀ m, (∀ j, j < m → d ∣ f j) → d ∣ sumR f m
  | 0, _ => Nat.dvd_zero _
  | m + 1, h => by rw [sumR]; exact Nat.dvd_add (sumR_dvd m (fun j hj => h j (by omega))) (h m (by omega))
theorem sum_filter (p : Nat → Bool) (f : Nat → Nat) : ∀ l : List Nat, ((l.filter p).map f).sum = (l.map fun j => if p j then f j else 0).sum
  | [] => rfl
  | x :: l => by
    have ih := sum_filter p f l
    cases h : p x with
    | true => rw [List.filter_cons_of_pos h, List.map_cons, List.sum_cons, ih, List.map_cons, List.sum_cons, if_pos h]
    | false => rw [List.filter_cons_of_neg (by simp [h]), ih, List.map_cons, List.sum_cons, if_neg (by simp [h])]; omega
abbrev ln (ls : List Int) (j : Nat) : Int := ls.getD j 0
theorem ln_eq {ls : List Int} {j : Nat} (h : j < ls.length) : ln ls j = ls[j] := by simp [ln, List.getD, h]
theorem ln_good {ls : List Int} (hg : good ls) (j : Nat) : 0 ≤ ln ls j ∧ ln ls j ≤ 15 := by
  rcases Nat.lt_or_ge j ls.length with h | h
  · rw [ln_eq h]; exact hg _ (List.getElem_mem h)
  · simp [ln, List.getD, h]
def pj (ls : List Int) (j : Nat) : Nat := if 0 < ln ls j then p2 (ln ls j).toNat else 0
theorem p2_dvd {m n : Nat} (h : m ≤ n) : p2 n ∣ p2 m := by
  unfold p2
  exact Nat.pow_dvd_pow 2 (by omega)
theorem p2_pos (n : Nat) : 0 < p2 n := by have := p2_le n; omega
theorem p2_sub {m n : Nat} (h : m ≤ n) (h2 : n ≤ 15) : p2 m = p2 n * 2 ^ (n - m) := by
  unfold p2
  rw [← Nat.pow_add]
  congr 1
  omega
theorem p2_mul {n : Nat} (h : n ≤ 15) : p2 n * 2 ^ n = 32768 := by
  unfold p2
  rw [← Nat.pow_add, show 15 - n + n = 15 by omega]
theorem room_sum : ∀ (ls : List Int), room ls = (sumR (pj ls) ls.length : Nat) := by
  intro ls
  have key : ∀ m, m ≤ ls.length → room (ls.take m) = (sumR (pj ls) m : Nat) := by
    intro m
    induction m with
    | zero => intro _; simp [room, sumR]
    | succ m ih =>
      intro h
      rw [List.take_succ_eq_append_getElem (by omega), room_snoc, ih (by omega), sumR, pw, pj, ln_eq (by omega)]
      split <;> simp
  have := key ls.length (Nat.le_refl _)
  rwa [List.take_length] at this
def ahead (ls : List Int) (n : Nat) (i j : Nat) : Prop := ln ls j < n ∨ ln ls j = n ∧ j < i
instance (ls : List Int) (n i j : Nat) : Decidable (ahead ls n i j) := by unfold ahead; infer_instance
def preN (ls : List Int) (n i : Nat) : Nat := sumR (fun j => if ahead ls n i j then pj ls j else 0) ls.length
theorem preN_step {ls : List Int} {n i : Nat} (hn : 0 < n) (hi : i < ls.length) : preN ls n (i + 1) = preN ls n i + (if ln ls i = n then p2 n else 0) := by
  have h1 : (if ln ls i = n then p2 n else 0) = sumR (fun j => if j = i then (if ln ls i = n then p2 n else 0) else 0) ls.length := by rw [sumR_point, if_pos hi]
  rw [h1]
  unfold preN
  rw [← sumR_add]
  refine sumR_congr _ (fun j hj => ?_)
  by_cases hji : j = i
  · subst hji
    rw [if_pos rfl]
    by_cases hl : ln ls j = n
    · rw [if_pos hl, if_pos (show ahead ls n (j + 1) j from .inr ⟨hl, by omega⟩), if_neg (show ¬ ahead ls n j j by unfold ahead; omega)]
      unfold pj
      rw [if_pos (by omega), hl]
      simp
    · rw [if_neg hl]
      have : ahead ls n (j + 1) j ↔ ahead ls n j j := by unfold ahead; omega
      simp only [this]
      omega
  · rw [if_neg hji]
    have : ahead ls n (i + 1) j ↔ ahead ls n i j := by unfold ahead; omega
    simp only [this]
    omega
theorem preN_dvd {ls : List Int} {n i : Nat} : p2 n ∣ preN ls n i := by
  unfold preN
  refine sumR_dvd _ (fun j hj => ?_)
  split
  · rename_i h
    unfold pj
    split
    · exact p2_dvd (by unfold ahead at h; omega)
    · exact Nat.dvd_zero _
  · exact Nat.dvd_zero _
theorem preN_room {ls : List Int} {n i : Nat} : (preN ls n i : Int) ≤ room ls := by
  rw [room_sum]
  have : preN ls n i ≤ sumR (pj ls) ls.length := sumR_le _ (fun j hj => by split <;> omega)
  omega
theorem room_some : ∀ (ls : List Int), room ls ≤ 16384 * (some_ ls : Nat)
  | [] => by simp [room, some_]
  | x :: ls => by
    have ih := room_some ls
    have : pw x ≤ if 0 < x then 16384 else 0 := by
      unfold pw
      split
      · have h1 : p2 x.toNat ≤ p2 1 := Nat.le_of_dvd (p2_pos 1) (p2_dvd (by omega))
        have : p2 1 = 16384 := rfl
        omega
      · omega
    unfold room some_ at *
    rw [List.map_cons, List.sum_cons, List.countP_cons]
    by_cases h : 0 < x
    · simp only [h, if_true, decide_true] at *
      omega
    · simp only [h, if_false, decide_false, Bool.false_eq_true] at *
      omega
theorem ok_room {ls : List Int} (h : okL ls) : room ls ≤ 32768 := by
  have := room_some ls
  rcases h.2.2 with h | ⟨h, _⟩ | h <;> omega
def codeV (ls : List Int) (s : Nat) : Nat := if 0 < ln ls s then preN ls (ln ls s).toNat s / p2 (ln ls s).toNat else 0
def codesL (ls : List Int) : List Nat := (List.range ls.length).map (codeV ls)
theorem codesL_len (ls : List Int) : (codesL ls).length = ls.length := by simp [codesL]
theorem codeV_lt {ls : List Int} (h : okL ls) {s : Nat} (hs : s < ls.length) (hp : 0 < ln ls s) : codeV ls s < 2 ^ (ln ls s).toNat := by
  unfold codeV
  rw [if_pos hp]
  obtain ⟨n, hn⟩ : ∃ n : Nat, ln ls s = n := ⟨(ln ls s).toNat, by omega⟩
  have hl := ln_good h.2.1 s
  have h1 := preN_step (ls := ls) (n := n) (i := s) (by omega) hs
  rw [if_pos hn] at h1
  have h2 := preN_room (ls := ls) (n := n) (i := s + 1)
  have h3 := ok_room h
  rw [hn]
  simp only [Int.toNat_natCast]
  rw [Nat.div_lt_iff_lt_mul (p2_pos n)]
  have h4 := p2_mul (n := n) (by omega)
  have h5 := p2_pos n
  have h6 : 2 ^ n * p2 n = 32768 := by rw [Nat.mul_comm]; exact h4
  omega
theorem codeV_small {ls : List Int} (h : okL ls) {s : Nat} (hs : s < ls.length) : codeV ls s < 32768 := by
  by_cases hp : 0 < ln ls s
  · have h1 := codeV_lt h hs hp
    have hl := ln_good h.2.1 s
    have : 2 ^ (ln ls s).toNat ≤ 2 ^ 15 := Nat.pow_le_pow_right (by omega) (by omega)
    omega
  · unfold codeV; rw [if_neg hp]; omega
def pl (ls : List Int) (l : List Nat) : Nat := (l.map (pj ls)).sum
theorem filter_take {key : Nat → Int} {l : List Nat} (h : srtd key l) {i : Nat} (hi : i < l.length) : l.filter (fun j => decide (lexlt key j l[i])) = l.take i := by
  have hp := List.pairwise_iff_getElem.1 h
  have e0 : l.filter (fun j => decide (lexlt key j l[i])) = (l.take i).filter (fun j => decide (lexlt key j l[i])) ++ (l.drop i).filter (fun j => decide (lexlt key j l[i])) := by
    rw [← List.filter_append, List.take_append_drop]
  rw [e0]
  have h1 : (l.take i).filter (fun j => decide (lexlt key j l[i])) = l.take i := by
    rw [List.filter_eq_self]
    intro x hx
    obtain ⟨j, hj, rfl⟩ := List.mem_iff_getElem.1 hx
    rw [List.length_take] at hj
    rw [List.getElem_take]
    simpa using hp j i (by omega) hi (by omega)
  have h2 : (l.drop i).filter (fun j => decide (lexlt key j l[i])) = [] := by
    rw [List.filter_eq_nil_iff]
    intro x hx
    obtain ⟨j, hj, rfl⟩ := List.mem_iff_getElem.1 hx
    rw [List.length_drop] at hj
    rw [List.getElem_drop]
    rcases Nat.eq_zero_or_pos j with rfl | h0
    · simpa using lex_irrefl key _
    · simpa using lex_asymm (hp i (i + j) hi (by omega) (by omega))
  rw [h1, h2, List.append_nil]
theorem ord_srtd (ls : List Int) : srtd (fun i => ls.getD i 0) (ord ls) := isort_srtd ((symsK_inc ls ls.length).imp (fun h => by omega))
theorem ord_perm (ls : List Int) : (ord ls).Perm (symsK ls ls.length) := isort_perm _
theorem ord_mem {ls : List Int} {i : Nat} : i ∈ ord ls ↔ i < ls.length ∧ 0 < ls.getD i 0 := by
  rw [(ord_perm ls).mem_iff, symsK_mem]
theorem ord_pre {ls : List Int} (hg : good ls) {i : Nat} (hi : i < (ord ls).length) : preN ls (ln ls (ord ls)[i]).toNat (ord ls)[i] = pl ls ((ord ls).take i) := by
  rw [← filter_take (ord_srtd ls) hi]
  have hm := ord_mem.1 (List.getElem_mem hi)
  generalize (ord ls)[i] = s at *
  have h1 : pl ls ((ord ls).filter (fun j => decide (lexlt (fun i => ls.getD i 0) j s))) = pl ls ((symsK ls ls.length).filter (fun j => decide (lexlt (fun i => ls.getD i 0) j s))) :=
    List.Perm.sum_nat (((ord_perm ls).filter _).map _)
  rw [h1]
  unfold pl symsK
  rw [List.filter_filter, sum_filter, sumR_eq]
  unfold preN
  refine sumR_congr _ (fun j hj => ?_)
  have hgs := ln_good hg s
  by_cases hp : 0 < ls.getD j 0
  · have : ahead ls (ln ls s).toNat s j ↔ lexlt (fun i => ls.getD i 0) j s := by unfold ahead lexlt; dsimp only [ln] at *; omega
    simp only [this, hp, decide_true, Bool.and_true, decide_eq_true_eq]
  · have h0 : pj ls j = 0 := by unfold pj; rw [if_neg hp]
    rw [h0]
    simp
theorem pl_snoc (ls : List Int) (l : List Nat) (s : Nat) : pl ls (l ++ [s]) = pl ls l + pj ls s := by
  simp [pl, List.sum_append]
theorem ord_len_inc {ls : List Int} {i : Nat} (hi : i + 1 < (ord ls).length) : ln ls (ord ls)[i] ≤ ln ls (ord ls)[i + 1] := by
  have h := List.pairwise_iff_getElem.1 (ord_srtd ls) i (i + 1) (by omega) hi (by omega)
  unfold lexlt at h
  dsimp only [ln] at *
  omega
theorem code_first {ls : List Int} (hg : good ls) (hi : 0 < (ord ls).length) : codeV ls (ord ls)[0] = 0 := by
  unfold codeV
  split
  · rw [ord_pre hg hi]; simp [pl]
  · rfl
theorem code_next {ls : List Int} (hg : good ls) {i : Nat} (hi : i + 1 < (ord ls).length) :
    codeV ls (ord ls)[i + 1] = (codeV ls (ord ls)[i] + 1) * 2 ^ ((ln ls (ord ls)[i + 1]).toNat - (ln ls (ord ls)[i]).toNat) := by
  have hi0 : i < (ord ls).length := by omega
  have h1 := ord_pre hg hi0
  have h2 := ord_pre hg hi
  rw [List.take_succ_eq_append_getElem hi0, pl_snoc, ← h1] at h2
  have hle := ord_len_inc hi
  have hm1 := (ord_mem.1 (List.getElem_mem hi0)).2
  have hm2 := (ord_mem.1 (List.getElem_mem hi)).2
  generalize (ord ls)[i + 1] = t at *
  generalize (ord ls)[i] = s at *
  have hg1 := ln_good hg s
  have hg2 := ln_good hg t
  change 0 < ln ls s at hm1
  change 0 < ln ls t at hm2
  have hpj : pj ls s = p2 (ln ls s).toNat := by unfold pj; rw [if_pos hm1]
  have hd := preN_dvd (ls := ls) (n := (ln ls s).toNat) (i := s)
  unfold codeV
  rw [if_pos hm1, if_pos hm2, h2, hpj]
  generalize preN ls (ln ls s).toNat s = p at *
  obtain ⟨q, rfl⟩ := hd
  rw [Nat.mul_div_cancel_left _ (p2_pos _)]
  have hs := p2_sub (m := (ln ls s).toNat) (n := (ln ls t).toNat) (by omega) (by omega)
  rw [hs]
  have : p2 (ln ls t).toNat * 2 ^ ((ln ls t).toNat - (ln ls s).toNat) * q + p2 (ln ls t).toNat * 2 ^ ((ln ls t).toNat - (ln ls s).toNat) = p2 (ln ls t).toNat * ((q + 1) * 2 ^ ((ln ls t).toNat - (ln ls s).toNat)) := by
    rw [← Nat.mul_succ, Nat.mul_assoc, Nat.mul_comm (2 ^ _)]
  rw [this, Nat.mul_div_cancel_left _ (p2_pos _)]
def cRow (ls : List Int) (k : Nat) : List Nat := (List.range ls.length).map fun s => if s ∈ (ord ls).take k then codeV ls s else 0
theorem cRow_len (ls : List Int) (k : Nat) : (cRow ls k).length = ls.length := by simp [cRow]
theorem cRow_zero (ls : List Int) : cRow ls 0 = List.replicate ls.length 0 := by
  apply List.ext_getElem
  · simp [cRow]
  · intro i h1 h2; simp [cRow]
theorem cRow_succ {ls : List Int} {k : Nat} (hk : k < (ord ls).length) : (cRow ls k).set (ord ls)[k] (codeV ls (ord ls)[k]) = cRow ls (k + 1) := by
  apply List.ext_getElem
  · simp [cRow]
  · intro i h1 h2
    rw [List.getElem_set]
    simp only [cRow, List.getElem_map, List.getElem_range]
    split
    · rename_i h
      subst h
      rw [if_pos]
      rw [List.take_succ_eq_append_getElem hk]
      exact List.mem_append_right _ (List.mem_singleton.2 rfl)
    · rename_i h
      rw [List.take_succ_eq_append_getElem hk]
      simp only [List.mem_append, List.mem_singleton]
      have : ¬ i = (ord ls)[k] := fun e => h e.symm
      simp only [this, or_false]
theorem cRow_all (ls : List Int) : cRow ls (ord ls).length = codesL ls := by
  unfold cRow codesL
  rw [List.take_length]
  refine List.map_congr_left (fun s hs => ?_)
  have hs' : s < ls.length := by simpa using hs
  split
  · rfl
  · rename_i h
    rw [ord_mem] at h
    unfold codeV
    rw [if_neg]
    unfold ln
    intro hh
    exact h ⟨hs', hh⟩
end Go.Huf

namespace Go.Huf
def byteAt (l : List Bool) (k : Nat) : Nat := sumR (fun i => if l.getD (8 * k + i) false then 2 ^ (7 - i) else 0) 8
def pack (l : List Bool) : List Nat := (List.range ((l.length + 7) / 8)).map (byteAt l)
def packO (l : List Bool) : List Nat := (List.range (l.length / 8 + 1)).map (byteAt l)
theorem byteAt_lt (l : List Bool) (k : Nat) : byteAt l k < 256 := by
  have h : byteAt l k ≤ sumR (fun i => 2 ^ (7 - i)) 8 := sumR_le 8 (fun i _ => by
    split
    · exact Nat.le_refl _
    · exact Nat.zero_le _)
  have : sumR (fun i => 2 ^ (7 - i)) 8 = 255 := by decide
  omega
theorem byteAt_none {l : List Bool} {k : Nat} (h : l.length ≤ 8 * k) : byteAt l k = 0 :=
  sumR_zero 8 (fun i _ => by rw [if_neg]; simp [List.getD, List.getElem?_eq_none (show l.length ≤ 8 * k + i by omega)])
theorem pack_lt {l : List Bool} : ∀ x ∈ pack l, x < 256 := by
  intro x hx
  obtain ⟨k, _, rfl⟩ := List.mem_map.1 hx
  exact byteAt_lt _ _
theorem pack_len (l : List Bool) : (pack l).length = (l.length + 7) / 8 := by simp [pack]
theorem packO_len (l : List Bool) : (packO l).length = l.length / 8 + 1 := by simp [packO]
theorem packO_new {l : List Bool} (h : l.length % 8 = 0) : packO l = pack l ++ [0] := by
  unfold packO pack
  rw [List.range_succ, List.map_append, show (l.length + 7) / 8 = l.length / 8 by omega]
  simp only [List.map_cons, List.map_nil]
  rw [byteAt_none (by omega)]
theorem packO_old {l : List Bool} (h : l.length % 8 ≠ 0) : packO l = pack l := by
  unfold packO pack
  rw [show (l.length + 7) / 8 = l.length / 8 + 1 by omega]
theorem byteAt_snoc (l : List Bool) (x : Bool) (k : Nat) : byteAt (l ++ [x]) k = byteAt l k + (if k = l.length / 8 then (if x then 2 ^ (7 - l.length % 8) else 0) else 0) := by
  generalize hy : (if k = l.length / 8 then (if x then 2 ^ (7 - l.length % 8) else 0) else 0) = y
  have h1 : sumR (fun i => if i = l.length % 8 then y else 0) 8 = y := by rw [sumR_point, if_pos (by omega)]
  conv => rhs; rw [← h1]
  unfold byteAt
  rw [← sumR_add]
  refine sumR_congr 8 (fun i hi => ?_)
  have hz : ∀ a b : Nat, a = b → (i = l.length % 8 → y = 0) → a = b + (if i = l.length % 8 then y else 0) := fun a b e h => by
    by_cases h2 : i = l.length % 8
    · rw [if_pos h2, h h2, e]; rfl
    · rw [if_neg h2, e]; rfl
  by_cases hlt : 8 * k + i < l.length
  · have : (l ++ [x]).getD (8 * k + i) false = l.getD (8 * k + i) false := by simp [List.getD, List.getElem?_append_left hlt]
    rw [this]
    refine hz _ _ rfl (fun h2 => ?_)
    rw [← hy, if_neg (by omega)]
  · have h4 : l.getD (8 * k + i) false = false := by simp [List.getD, List.getElem?_eq_none (show l.length ≤ 8 * k + i by omega)]
    by_cases he : 8 * k + i = l.length
    · have h3 : (l ++ [x]).getD (8 * k + i) false = x := by rw [he]; simp [List.getD]
      rw [h3, h4, if_pos (show i = l.length % 8 by omega), ← hy, if_pos (show k = l.length / 8 by omega), show l.length % 8 = i by omega]
      simp
    · have h3 : (l ++ [x]).getD (8 * k + i) false = false := by simp [List.getD, List.getElem?_eq_none (show (l ++ [x]).length ≤ 8 * k + i by simp; omega)]
      rw [h3, h4]
      refine hz _ _ rfl (fun h2 => ?_)
      rw [← hy, if_neg (by omega)]
theorem pack_snoc (l : List Bool) (x : Bool) : (packO l).set (l.length / 8) (byteAt l (l.length / 8) + (if x then 2 ^ (7 - l.length % 8) else 0)) = pack (l ++ [x]) := by
  apply List.ext_getElem
  · rw [List.length_set, packO_len, pack_len, List.length_append, List.length_singleton]; omega
  · intro k h1 h2
    rw [List.length_set, packO_len] at h1
    rw [List.getElem_set]
    simp only [packO, pack, List.getElem_map, List.getElem_range]
    rw [byteAt_snoc]
    by_cases h3 : l.length / 8 = k
    · subst h3; simp
    · rw [if_neg h3, if_neg (fun e => h3 e.symm)]; rfl
theorem packO_get (l : List Bool) {k : Nat} (h : k < (packO l).length) : (packO l)[k] = byteAt l k := by simp [packO]
theorem byteAt_low (l : List Bool) : 2 ^ (7 - l.length % 8 + 1) ∣ byteAt l (l.length / 8) := by
  refine sumR_dvd 8 (fun i hi => ?_)
  by_cases h : i < l.length % 8
  · split
    · exact Nat.pow_dvd_pow 2 (by omega)
    · exact Nat.dvd_zero _
  · have h4 : l.getD (8 * (l.length / 8) + i) false = false := by simp [List.getD, List.getElem?_eq_none (show l.length ≤ 8 * (l.length / 8) + i by omega)]
    rw [h4]
    exact Nat.dvd_zero _
theorem or_add {a e : Nat} (h : 2 ^ (e + 1) ∣ a) : a ||| 2 ^ e = a + 2 ^ e := by
  obtain ⟨q, rfl⟩ := h
  rw [Nat.two_pow_add_eq_or_of_lt (Nat.pow_lt_pow_right (by omega) (by omega)) q]
def b2n (x : Bool) : Nat := if x then 1 else 0
theorem byte_or (l : List Bool) (x : Bool) : byteAt l (l.length / 8) ||| b2n x * 2 ^ (7 - l.length % 8) = byteAt l (l.length / 8) + (if x then 2 ^ (7 - l.length % 8) else 0) := by
  cases x
  · simp [b2n]
  · simp only [b2n, if_true, Nat.one_mul]
    exact or_add (byteAt_low l)
theorem byte_or_lt (l : List Bool) (x : Bool) : byteAt l (l.length / 8) + (if x then 2 ^ (7 - l.length % 8) else 0) < 256 := by
  have h := byteAt_lt (l ++ [x]) (l.length / 8)
  rw [byteAt_snoc, if_pos rfl] at h
  exact h
def bitAt (c n j : Nat) : Bool := decide (c / 2 ^ (n - 1 - j) % 2 = 1)
def bitsK (c n : Nat) : List Bool := (List.range n).map (bitAt c n)
theorem bitsK_len (c n : Nat) : (bitsK c n).length = n := by simp [bitsK]
theorem bitsK_take (c n : Nat) {j : Nat} (h : j < n) : (bitsK c n).take j ++ [bitAt c n j] = (bitsK c n).take (j + 1) := by
  rw [List.take_succ_eq_append_getElem (by rw [bitsK_len]; exact h)]
  simp [bitsK]
theorem b2n_bit (c n j : Nat) : b2n (bitAt c n j) = c / 2 ^ (n - 1 - j) % 2 := by
  unfold b2n bitAt
  by_cases h : c / 2 ^ (n - 1 - j) % 2 = 1
  · simp [h]
  · simp [h]; omega
def okS (ls : List Int) (s : Int) : Prop := 0 ≤ s ∧ s < ls.length ∧ ln ls s.toNat ≠ 0
instance (ls : List Int) (s : Int) : Decidable (okS ls s) := by unfold okS; infer_instance
def symBits (ls : List Int) (s : Int) : List Bool := bitsK (codeV ls s.toNat) (ln ls s.toNat).toNat
def bitsOf (ls : List Int) (ss : List Int) : List Bool := ss.flatMap (symBits ls)
theorem bitsOf_snoc (ls ss : List Int) (s : Int) : bitsOf ls (ss ++ [s]) = bitsOf ls ss ++ symBits ls s := by simp [bitsOf]
theorem or8 {a b : Nat} (ha : a < 256) (hb : b < 256) : (BitVec.ofInt 8 (a : Int) ||| BitVec.ofInt 8 (b : Int)).toNat = a ||| b := by
  rw [BitVec.toNat_or, BitVec.ofInt_natCast, BitVec.ofInt_natCast, BitVec.toNat_ofNat, BitVec.toNat_ofNat, Nat.mod_eq_of_lt (by omega), Nat.mod_eq_of_lt (by omega)]
end Go.Huf
namespace Go.Huf
section
variable {ls : List Int}
theorem code_room {s : Nat} (hp : 0 < ln ls s) : codeV ls s * p2 (ln ls s).toNat = preN ls (ln ls s).toNat s := by
  unfold codeV
  rw [if_pos hp]
  exact Nat.div_mul_cancel preN_dvd
theorem pre_ahead {a b : Nat} (ha : a < ls.length) (hpa : 0 < ln ls a) (hpb : 0 < ln ls b) (h : ln ls a < ln ls b ∨ ln ls a = ln ls b ∧ a < b) : preN ls (ln ls a).toNat a + p2 (ln ls a).toNat ≤ preN ls (ln ls b).toNat b := by
  have h1 : p2 (ln ls a).toNat = sumR (fun j => if j = a then p2 (ln ls a).toNat else 0) ls.length := by rw [sumR_point, if_pos ha]
  rw [h1]
  unfold preN
  rw [← sumR_add]
  refine sumR_le _ (fun j hj => ?_)
  by_cases hja : j = a
  · subst hja
    rw [if_neg (show ¬ ahead ls (ln ls j).toNat j j by unfold ahead; omega), if_pos (show j = j from rfl), if_pos (show ahead ls (ln ls b).toNat b j by unfold ahead; omega)]
    unfold pj
    rw [if_pos hpa]
    omega
  · rw [if_neg hja]
    by_cases h2 : ahead ls (ln ls a).toNat a j
    · rw [if_pos h2, if_pos (show ahead ls (ln ls b).toNat b j by unfold ahead at *; omega)]
      omega
    · rw [if_neg h2]
      omega
theorem div_back {c a d : Nat} (h : a = c / 2 ^ d) : a * 2 ^ d ≤ c ∧ c < (a + 1) * 2 ^ d := by
  have h1 := Nat.two_pow_pos d
  subst h
  refine ⟨Nat.div_mul_le_self _ _, ?_⟩
  have h2 := Nat.div_add_mod c (2 ^ d)
  have h3 := Nat.mod_lt c h1
  rw [Nat.add_mul, Nat.one_mul, Nat.mul_comm]
  omega
theorem code_apart {a b : Nat} (hok : okL ls) (ha : a < ls.length) (hb : b < ls.length) (hpa : 0 < ln ls a) (hab : ln ls a ≤ ln ls b) (h : codeV ls a = codeV ls b / 2 ^ ((ln ls b).toNat - (ln ls a).toNat)) : a = b := by
  have hga := ln_good hok.2.1 a
  have hgb := ln_good hok.2.1 b
  have hpb : 0 < ln ls b := by omega
  have ra := code_room hpa
  have rb := code_room hpb
  obtain ⟨h1, h2⟩ := div_back h
  have hs := p2_sub (m := (ln ls a).toNat) (n := (ln ls b).toNat) (by omega) (by omega)
  have h3 := Nat.mul_le_mul_right (p2 (ln ls b).toNat) h1
  have h4 := Nat.mul_lt_mul_of_pos_right h2 (p2_pos (ln ls b).toNat)
  rw [Nat.mul_assoc, Nat.mul_comm (2 ^ _), ← hs, ra, rb] at h3
  rw [Nat.mul_assoc, Nat.mul_comm (2 ^ _), ← hs, Nat.add_mul, ra, rb, Nat.one_mul] at h4
  apply Classical.byContradiction
  intro hne
  rcases Nat.lt_or_ge a b with hlt | hge
  · have := pre_ahead ha hpa hpb (by omega)
    omega
  · by_cases he : ln ls a = ln ls b
    · have := pre_ahead hb hpb hpa (by omega)
      have hp := p2_pos (ln ls b).toNat
      omega
    · have := pre_ahead ha hpa hpb (by omega)
      omega
end
end Go.Huf

namespace Go.Proofs.YtdnaahbhfjclpaaGreatDoor
open Go.RowKit Go.Sal Go.Huf
theorem fits_src {P : Program} (w : World) (base : Nat) (t ty e : TypeId) (z : Value) (size bytes : Nat) (ht : P.underlying t = some (.slice e)) (hinfo : (P.info? e).map (fun i => (i.zero, i.size, i.bytes)) = some (some z, size, bytes))
    (g n cap : Nat) (xs : List Value) (hown : w.ownsRow base e size (.slice (some ⟨g, 0, none⟩) n cap) n xs) (A : Addr) (m c : Nat) (news : List Value) (hs : Src w size (some A) m news) (h1 : ∀ u ∈ news, u.oneCell' = true) (hroom : n + m ≤ cap) (hsz : 0 < size) :
    ∃ w', (Builtin.append_ #[t, t] ty #[.slice (some ⟨g, 0, none⟩) n cap, .slice (some A) m c]).run P w = .ok (.slice (some ⟨g, 0, none⟩) (n + m) cap) w' ∧
      w'.ownsRow base e size (.slice (some ⟨g, 0, none⟩) (n + m) cap) (n + m) (xs ++ news) ∧ w.grownBy w' (some g) := by
  obtain ⟨i, hi, hsize⟩ : ∃ i, P.info? e = some i ∧ i.size = size := by
    cases hx : P.info? e with
    | none => rw [hx] at hinfo; cases hinfo
    | some i =>
      rw [hx] at hinfo
      simp only [Option.map_some, Option.some.injEq, Prod.mk.injEq] at hinfo
      exact ⟨i, rfl, hinfo.2.1⟩
  refine run_append_fits (P := P) w base t ty e i size ht hi hsize g n cap xs hown A m c news hs.1 ?_ h1 hroom
  intro j u hu
  rcases Nat.eq_zero_or_pos m with h0 | h0
  · subst h0
    have : news = [] := List.eq_nil_of_length_eq_zero (by have := hs.1; simpa using this)
    subst this
    simp at hu
  · obtain ⟨a', ha, hc⟩ := hs.2 h0
    injection ha with ha
    subst ha
    exact hc j u hu
set_option maxRecDepth 20000 in
set_option maxHeartbeats 2000000 in
theorem delete_any (base g n cap k : Nat) (xs : List Value) (w : World) (hown : w.ownsRow base 3 1 (.slice (some ⟨g, 0, none⟩) n cap) n xs) (h1 : ∀ u ∈ xs, u.oneCell' = true) (hk : k < n) (hn : n ≤ 100000) (hcap : n ≤ cap) (hcm : cap ≤ 9223372036854775807) :
    Calls Tryz.prog 165 #[.slice (some ⟨g, 0, none⟩) n cap, .int .i64 (k : Int), .int .i64 ((k : Int) + 1)] w fun e w' => e = .returned (.slice (some ⟨g, 0, none⟩) (n - 1) cap) ∧
      w'.ownsRow base 3 1 (.slice (some ⟨g, 0, none⟩) (n - 1) cap) (n - 1) (xs.eraseIdx k) ∧ Keep [g] w w' := by
  obtain ⟨tl, htl⟩ : ∃ tl : Addr, tl = (if cap = k + 1 then (⟨g, 0, none⟩ : Addr) else ⟨g, k + 1, none⟩) := ⟨_, rfl⟩
  obtain ⟨mm, mc, hmm⟩ : ∃ mm mc, mm = n - (k + 1) ∧ mc = cap - (k + 1) := ⟨_, _, rfl, rfl⟩
  obtain ⟨nn, hnn⟩ : ∃ nn, nn = n - 1 := ⟨_, rfl⟩
  rw [← hnn]
  have hs1 := fun W => slice_head (P := Tryz.prog) 140 3 Tryz.underlying140 (some ⟨g, 0, none⟩) n cap k (by omega) W 1 (by kernel_rfl)
  have hs2 : ∀ W, (Instr.slice 140 (.slice (some ⟨g, 0, none⟩) n cap) (some (.int .i64 ((k : Int) + 1))) none none).run Tryz.prog W = .ok (.slice (some tl) mm mc) W := fun W => by
    have h := slice_tail (P := Tryz.prog) 140 3 Tryz.underlying140 (some ⟨g, 0, none⟩) n cap (k + 1) (by omega) W 1 (by kernel_rfl)
    rw [Int.natCast_add] at h
    rw [htl, hmm.1, hmm.2]
    have e : (if cap = k + 1 then (some ⟨g, 0, none⟩ : Option Addr) else Option.map (fun x : Addr => x.add ((k + 1) * 1)) (some ⟨g, 0, none⟩)) = some (if cap = k + 1 then (⟨g, 0, none⟩ : Addr) else ⟨g, k + 1, none⟩) := by
      split
      · rfl
      · simp [add_mk]
    rw [← e]
    exact h
  have hlen : xs.length = n := by have := hown.1; omega
  -- the append, in place
  have hshort : w.drew.ownsRow base 3 1 (.slice (some ⟨g, 0, none⟩) k cap) k (xs.take k) := by
    have h := own_short (k := k) hown (by omega)
    rw [Nat.mul_one] at h
    exact h
  have hsrc : Src w.drew 1 (some tl) mm (xs.drop (k + 1)) := by
    have h := (Src.of_own hown).tail (k := k + 1) (cap := cap) (by omega) hcap
    rw [htl, hmm.1]
    have e : (if cap = k + 1 then (some ⟨g, 0, none⟩ : Option Addr) else Option.map (fun x : Addr => x.add ((k + 1) * 1)) (some ⟨g, 0, none⟩)) = some (if cap = k + 1 then (⟨g, 0, none⟩ : Addr) else ⟨g, k + 1, none⟩) := by
      split
      · rfl
      · simp [add_mk]
    rw [e, Nat.mul_one] at h
    exact h
  obtain ⟨w1, hap, hown1, hg1⟩ := fits_src (P := Tryz.prog) w.drew base 140 140 3 (.int .i64 0) 1 8 Tryz.underlying140 intinfo g k cap _ hshort tl mm mc _ hsrc (fun u hu => h1 u (List.mem_of_mem_drop hu)) (by omega) (by omega)
  have hkm : k + mm = nn := by omega
  rw [hkm] at hap hown1
  have hk1 : Keep [g] w w1 := (((Keep.refl [g] w).drew)).grown hg1 (fun j hj => by injection hj with hj; left; simp [hj])
  obtain ⟨hr1, hr2⟩ := own_room hown1 (j := nn) (by omega)
  have hsl3 : ∀ W, (Instr.slice 140 (.slice (some ⟨g, 0, none⟩) nn cap) (some (.int .i64 (nn : Int))) (some (.int .i64 (n : Int))) none).run Tryz.prog W = .ok (.slice (some ⟨g, nn, none⟩) 1 (cap - nn)) W := fun W => by
    have hi : ∃ i, Tryz.prog.info? 3 = some i ∧ i.size = 1 := by
      cases hx : Tryz.prog.info? 3 with
      | none => have := intinfo; rw [hx] at this; cases this
      | some i =>
        have := intinfo
        rw [hx] at this
        simp only [Option.map_some, Option.some.injEq, Prod.mk.injEq] at this
        exact ⟨i, rfl, this.2.1⟩
    obtain ⟨i, hi, hi1⟩ := hi
    have hc1 : ¬ cap = nn := by omega
    have hc2 : nn ≤ n := by omega
    have hc3 : n ≤ cap := hcap
    have hc4 : n - nn = 1 := by omega
    simp [Instr.slice, run_underlying Tryz.underlying140, Instr.sliceBounds, Instr.sliceBound, asIntOf, sizeOf, typeInfo, hi, hi1, hc1, hc2, hc3, hc4, Addr.add]
    omega
  have hcl : ∀ ty, (Builtin.clear_ #[140] ty #[.slice (some ⟨g, nn, none⟩) 1 (cap - nn)]).run Tryz.prog w1 = .ok (.tuple #[]) (w1.setCell ⟨g, nn, none⟩ (.int .i64 0)) := fun ty => by
    have h := Lib.run_clear_slice (P := Tryz.prog) w1 140 3 ty (.int .i64 0) Tryz.underlying140 (fun w => by kernel_rfl) rfl rfl g nn 1 (cap - nn) (by omega) (fun j hj => by
      obtain rfl : j = 0 := by omega
      exact hr1) (fun j hj => by
      obtain rfl : j = 0 := by omega
      exact hr2)
    simpa [World.setCells] using h
  have hfin : (w1.setCell ⟨g, nn, none⟩ (.int .i64 0)).ownsRow base 3 1 (.slice (some ⟨g, 0, none⟩) nn cap) nn (xs.eraseIdx k) := by
    rw [eraseIdx_take_drop]
    exact own_beyond hown1 nn (by omega) _
  have hkf : Keep [g] w (w1.setCell ⟨g, nn, none⟩ (.int .i64 0)) := hk1.setCell (.inl (by simp)) _
  have Hfin := Lib.hid (And.intro hfin hkf)
  have hne : ((k : Int) == (k : Int) + 1) = false := by simp; omega
  have hkn : k ≤ k + 1 ∧ k + 1 ≤ n := by omega
  have hk2 : k + 1 ≤ n := hkn.2
  clear hkm hkn hown h1 hshort hsrc hown1 hg1 hk1 hr1 hr2 hfin hkf htl hmm hlen hnn
  go_enter Tryz.func165, Tryz.ntmps165
  go_wp2_with fail
  refine wp_region_G (fun _ => True) [6] #[false, false, false, false, false, false, false, false] 8 (by kernel_rfl) (by kernel_rfl) (by kernel_rfl) ?_
  refine wpAnyG_take0 (i := 0) (oi := ⟨_, _, _, _, _, _⟩) (v := ?vg1_0) rfl (by kernel_rfl) (by kernel_rfl) (by kernel_rfl) (by kernel_rfl) (fun _ _ _ h => h) (fun _ => trivial) (Or.inl ⟨by rfl, ?hg1_0⟩) ?_
  case hg1_0 => intro w _; go_simp; (try with_reducible rfl)
  try simp only [Act.put, List.setIfInBounds_toArray, List.set_cons_zero, List.set_cons_succ]
  refine wpAnyG_take0 (i := 1) (oi := ⟨_, _, _, _, _, _⟩) (v := ?vg1_1) rfl (by kernel_rfl) (by kernel_rfl) (by kernel_rfl) (by kernel_rfl) (fun _ _ _ h => h) (fun _ => trivial) (Or.inl ⟨by rfl, ?hg1_1⟩) ?_
  case hg1_1 => intro w _; go_simp; (try with_reducible rfl)
  try simp only [Act.put, List.setIfInBounds_toArray, List.set_cons_zero, List.set_cons_succ]
  refine wpAnyG_take0 (i := 2) (oi := ⟨_, _, _, _, _, _⟩) (v := ?vg1_2) rfl (by kernel_rfl) (by kernel_rfl) (by kernel_rfl) (by kernel_rfl) (fun _ _ _ h => h) (fun _ => trivial) (Or.inl ⟨by rfl, ?hg1_2⟩) ?_
  case hg1_2 => intro w _; go_simp; (try with_reducible rfl)
  try simp only [Act.put, List.setIfInBounds_toArray, List.set_cons_zero, List.set_cons_succ]
  refine wpAnyG_take0 (i := 3) (oi := ⟨_, _, _, _, _, _⟩) (v := ?vg1_3) rfl (by kernel_rfl) (by kernel_rfl) (by kernel_rfl) (by kernel_rfl) (fun _ _ _ h => h) (fun _ => trivial) (Or.inl ⟨by rfl, ?hg1_3⟩) ?_
  case hg1_3 => intro w _; go_simp; (try with_reducible rfl)
  try simp only [Act.put, List.setIfInBounds_toArray, List.set_cons_zero, List.set_cons_succ]
  refine wpAnyG_take0 (i := 4) (oi := ⟨_, _, _, _, _, _⟩) (v := ?vg1_4) rfl (by kernel_rfl) (by kernel_rfl) (by kernel_rfl) (by kernel_rfl) (fun _ _ _ h => h) (fun _ => trivial) (Or.inl ⟨by rfl, ?hg1_4⟩) ?_
  case hg1_4 => intro w _; go_simp; (try with_reducible rfl)
  try simp only [Act.put, List.setIfInBounds_toArray, List.set_cons_zero, List.set_cons_succ]
  refine wpAnyG_take0 (i := 5) (oi := ⟨_, _, _, _, _, _⟩) (v := ?vg1_5) rfl (by kernel_rfl) (by kernel_rfl) (by kernel_rfl) (by kernel_rfl) (fun _ _ _ h => h) (fun _ => trivial) (Or.inl ⟨by rfl, ?hg1_5⟩) ?_
  case hg1_5 => intro w _; go_simp; (try with_reducible rfl)
  try simp only [Act.put, List.setIfInBounds_toArray, List.set_cons_zero, List.set_cons_succ]
  refine wpAnyG_step (i := 6) (oi := ⟨_, _, _, _, _, _⟩) rfl (by kernel_rfl) (by rfl) (fun K hK => ?_)
  refine wp_append2 (v1 := .slice (some ⟨g, 0, none⟩) k cap) (v2 := .slice (some tl) mm mc) (.tmp 22) (.tmp 25) rfl rfl rfl hap ?_
  refine hK _ _ (fun h => absurd h (Bool.eq_false_iff.1 (by kernel_rfl))) (fun _ => ?_)
  clear hK
  try simp only [Act.put, List.setIfInBounds_toArray, List.set_cons_zero, List.set_cons_succ]
  refine wpAnyG_take0 (i := 7) (oi := ⟨_, _, _, _, _, _⟩) (v := ?vg1_7) rfl (by kernel_rfl) (by kernel_rfl) (by kernel_rfl) (by kernel_rfl) (fun _ _ _ h => h) (fun h => absurd h (Bool.eq_false_iff.1 (by kernel_rfl))) (Or.inl ⟨by rfl, ?hg1_7⟩) ?_
  case hg1_7 => intro w _; go_simp; (try with_reducible rfl)
  try simp only [Act.put, List.setIfInBounds_toArray, List.set_cons_zero, List.set_cons_succ]
  refine wpAnyG_done (by kernel_rfl) ?_ _
  clear hap hs1 hs2
  go_wp2
  go_ret
  exact ⟨rfl, Hfin.out.1, Hfin.out.2⟩
end Go.Proofs.YtdnaahbhfjclpaaGreatDoor

