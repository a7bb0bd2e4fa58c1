/- No code is the beginning of another one's: on lists alone. -/
import Derived.Test.YtknjjodkpknglaaHfB
set_option linter.unusedVariables false
set_option linter.unusedSimpArgs false
namespace Go.Huf
section
variable {ls : List Int}
/-- where a symbol's codes begin, in room -/
theorem code_room {s : Nat} (hp : 0 < ln ls s) : codeV ls s * p2 (ln ls s).toNat = preN ls (ln ls s).toNat s := by
  unfold codeV
  rw [if_pos hp]
  exact Nat.div_mul_cancel preN_dvd
/-- whoever stands ahead has its room ahead -/
theorem pre_ahead {a b : Nat} (ha : a < ls.length) (hpa : 0 < ln ls a) (hpb : 0 < ln ls b) (h : ln ls a < ln ls b ∨ ln ls a = ln ls b ∧ a < b) : preN ls (ln ls a).toNat a + p2 (ln ls a).toNat ≤ preN ls (ln ls b).toNat b := by
  have h1 : p2 (ln ls a).toNat = sumR (fun j => if j = a then p2 (ln ls a).toNat else 0) ls.length := by rw [sumR_point, if_pos ha]
  rw [h1]
  unfold preN
  rw [← sumR_add]
  refine sumR_le _ (fun j hj => ?_)
  by_cases hja : j = a
  · subst hja
    rw [if_neg (show ¬ ahead ls (ln ls j).toNat j j by unfold ahead; omega), if_pos (show j = j from rfl), if_pos (show ahead ls (ln ls b).toNat b j by unfold ahead; omega)]
    unfold pj
    rw [if_pos hpa]
    omega
  · rw [if_neg hja]
    by_cases h2 : ahead ls (ln ls a).toNat a j
    · rw [if_pos h2, if_pos (show ahead ls (ln ls b).toNat b j by unfold ahead at *; omega)]
      omega
    · rw [if_neg h2]
      omega
theorem div_back {c a d : Nat} (h : a = c / 2 ^ d) : a * 2 ^ d ≤ c ∧ c < (a + 1) * 2 ^ d := by
  have h1 := Nat.two_pow_pos d
  subst h
  refine ⟨Nat.div_mul_le_self _ _, ?_⟩
  have h2 := Nat.div_add_mod c (2 ^ d)
  have h3 := Nat.mod_lt c h1
  rw [Nat.add_mul, Nat.one_mul, Nat.mul_comm]
  omega
/-- no code is the beginning of another one's -/
theorem code_apart {a b : Nat} (hok : okL ls) (ha : a < ls.length) (hb : b < ls.length) (hpa : 0 < ln ls a) (hab : ln ls a ≤ ln ls b) (h : codeV ls a = codeV ls b / 2 ^ ((ln ls b).toNat - (ln ls a).toNat)) : a = b := by
  have hga := ln_good hok.2.1 a
  have hgb := ln_good hok.2.1 b
  have hpb : 0 < ln ls b := by omega
  have ra := code_room hpa
  have rb := code_room hpb
  obtain ⟨h1, h2⟩ := div_back h
  have hs := p2_sub (m := (ln ls a).toNat) (n := (ln ls b).toNat) (by omega) (by omega)
  have h3 := Nat.mul_le_mul_right (p2 (ln ls b).toNat) h1
  have h4 := Nat.mul_lt_mul_of_pos_right h2 (p2_pos (ln ls b).toNat)
  rw [Nat.mul_assoc, Nat.mul_comm (2 ^ _), ← hs, ra, rb] at h3
  rw [Nat.mul_assoc, Nat.mul_comm (2 ^ _), ← hs, Nat.add_mul, ra, rb, Nat.one_mul] at h4
  apply Classical.byContradiction
  intro hne
  rcases Nat.lt_or_ge a b with hlt | hge
  · have := pre_ahead ha hpa hpb (by omega)
    omega
  · by_cases he : ln ls a = ln ls b
    · have := pre_ahead hb hpb hpa (by omega)
      have hp := p2_pos (ln ls b).toNat
      omega
    · have := pre_ahead ha hpa hpb (by omega)
      omega
end
theorem bit_test (c n j : Nat) : bitAt c n j = c.testBit (n - 1 - j) := by
  unfold bitAt
  rw [Nat.testBit_eq_decide_div_mod_eq]
/-- what has the same bits is the same -/
theorem bits_same {x y n : Nat} (hx : x < 2 ^ n) (hy : y < 2 ^ n) (h : ∀ i, i < n → bitAt x n i = bitAt y n i) : x = y := by
  apply Nat.eq_of_testBit_eq
  intro i
  rcases Nat.lt_or_ge i n with hi | hi
  · have := h (n - 1 - i) (by omega)
    rw [bit_test, bit_test, show n - 1 - (n - 1 - i) = i by omega] at this
    exact this
  · rw [Nat.testBit_lt_two_pow (Nat.lt_of_lt_of_le hx (Nat.pow_le_pow_right (by omega) hi)), Nat.testBit_lt_two_pow (Nat.lt_of_lt_of_le hy (Nat.pow_le_pow_right (by omega) hi))]
theorem bit_head (c : Nat) {n m i : Nat} (hmn : m ≤ n) (hi : i < m) : bitAt (c / 2 ^ (n - m)) m i = bitAt c n i := by
  unfold bitAt
  rw [Nat.div_div_eq_div_mul, ← Nat.pow_add, show n - m + (m - 1 - i) = n - 1 - i by omega]
theorem div_lt_pow {c n m : Nat} (h : c < 2 ^ n) (hmn : m ≤ n) : c / 2 ^ (n - m) < 2 ^ m := by
  rw [Nat.div_lt_iff_lt_mul (Nat.two_pow_pos _), ← Nat.pow_add, show m + (n - m) = n by omega]
  exact h
/-- two symbols' codes fall apart within the shorter one -/
theorem bits_apart {ls : List Int} {a b : Nat} (hok : okL ls) (ha : a < ls.length) (hb : b < ls.length) (hpa : 0 < ln ls a) (hab : ln ls a ≤ ln ls b) (hne : a ≠ b) :
    ¬ ∀ i, i < (ln ls a).toNat → bitAt (codeV ls a) (ln ls a).toNat i = bitAt (codeV ls b) (ln ls b).toNat i := fun h => by
  refine hne (code_apart hok ha hb hpa hab (bits_same (n := (ln ls a).toNat) (codeV_lt hok ha hpa) (div_lt_pow (codeV_lt hok hb (by omega)) (by omega)) (fun i hi => ?_)))
  rw [bit_head _ (by omega) hi]
  exact h i hi
end Go.Huf
