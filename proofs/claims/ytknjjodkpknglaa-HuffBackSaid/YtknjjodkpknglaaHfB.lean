/- Bits in bytes, and symbols as bits: on lists alone. -/
import Derived.Test.YtknjjodkpknglaaHfK
set_option linter.unusedVariables false
set_option linter.unusedSimpArgs false
namespace Go.Huf
def byteAt (l : List Bool) (k : Nat) : Nat := sumR (fun i => if l.getD (8 * k + i) false then 2 ^ (7 - i) else 0) 8
def pack (l : List Bool) : List Nat := (List.range ((l.length + 7) / 8)).map (byteAt l)
/-- with room for one more bit -/
def packO (l : List Bool) : List Nat := (List.range (l.length / 8 + 1)).map (byteAt l)
theorem byteAt_lt (l : List Bool) (k : Nat) : byteAt l k < 256 := by
  have h : byteAt l k ≤ sumR (fun i => 2 ^ (7 - i)) 8 := sumR_le 8 (fun i _ => by
    split
    · exact Nat.le_refl _
    · exact Nat.zero_le _)
  have : sumR (fun i => 2 ^ (7 - i)) 8 = 255 := by decide
  omega
theorem byteAt_none {l : List Bool} {k : Nat} (h : l.length ≤ 8 * k) : byteAt l k = 0 :=
  sumR_zero 8 (fun i _ => by rw [if_neg]; simp [List.getD, List.getElem?_eq_none (show l.length ≤ 8 * k + i by omega)])
theorem pack_lt {l : List Bool} : ∀ x ∈ pack l, x < 256 := by
  intro x hx
  obtain ⟨k, _, rfl⟩ := List.mem_map.1 hx
  exact byteAt_lt _ _
theorem pack_len (l : List Bool) : (pack l).length = (l.length + 7) / 8 := by simp [pack]
theorem packO_len (l : List Bool) : (packO l).length = l.length / 8 + 1 := by simp [packO]
theorem packO_new {l : List Bool} (h : l.length % 8 = 0) : packO l = pack l ++ [0] := by
  unfold packO pack
  rw [List.range_succ, List.map_append, show (l.length + 7) / 8 = l.length / 8 by omega]
  simp only [List.map_cons, List.map_nil]
  rw [byteAt_none (by omega)]
theorem packO_old {l : List Bool} (h : l.length % 8 ≠ 0) : packO l = pack l := by
  unfold packO pack
  rw [show (l.length + 7) / 8 = l.length / 8 + 1 by omega]
theorem byteAt_snoc (l : List Bool) (x : Bool) (k : Nat) : byteAt (l ++ [x]) k = byteAt l k + (if k = l.length / 8 then (if x then 2 ^ (7 - l.length % 8) else 0) else 0) := by
  generalize hy : (if k = l.length / 8 then (if x then 2 ^ (7 - l.length % 8) else 0) else 0) = y
  have h1 : sumR (fun i => if i = l.length % 8 then y else 0) 8 = y := by rw [sumR_point, if_pos (by omega)]
  conv => rhs; rw [← h1]
  unfold byteAt
  rw [← sumR_add]
  refine sumR_congr 8 (fun i hi => ?_)
  have hz : ∀ a b : Nat, a = b → (i = l.length % 8 → y = 0) → a = b + (if i = l.length % 8 then y else 0) := fun a b e h => by
    by_cases h2 : i = l.length % 8
    · rw [if_pos h2, h h2, e]; rfl
    · rw [if_neg h2, e]; rfl
  by_cases hlt : 8 * k + i < l.length
  · have : (l ++ [x]).getD (8 * k + i) false = l.getD (8 * k + i) false := by simp [List.getD, List.getElem?_append_left hlt]
    rw [this]
    refine hz _ _ rfl (fun h2 => ?_)
    rw [← hy, if_neg (by omega)]
  · have h4 : l.getD (8 * k + i) false = false := by simp [List.getD, List.getElem?_eq_none (show l.length ≤ 8 * k + i by omega)]
    by_cases he : 8 * k + i = l.length
    · have h3 : (l ++ [x]).getD (8 * k + i) false = x := by rw [he]; simp [List.getD]
      rw [h3, h4, if_pos (show i = l.length % 8 by omega), ← hy, if_pos (show k = l.length / 8 by omega), show l.length % 8 = i by omega]
      simp
    · have h3 : (l ++ [x]).getD (8 * k + i) false = false := by simp [List.getD, List.getElem?_eq_none (show (l ++ [x]).length ≤ 8 * k + i by simp; omega)]
      rw [h3, h4]
      refine hz _ _ rfl (fun h2 => ?_)
      rw [← hy, if_neg (by omega)]
theorem pack_snoc (l : List Bool) (x : Bool) : (packO l).set (l.length / 8) (byteAt l (l.length / 8) + (if x then 2 ^ (7 - l.length % 8) else 0)) = pack (l ++ [x]) := by
  apply List.ext_getElem
  · rw [List.length_set, packO_len, pack_len, List.length_append, List.length_singleton]; omega
  · intro k h1 h2
    rw [List.length_set, packO_len] at h1
    rw [List.getElem_set]
    simp only [packO, pack, List.getElem_map, List.getElem_range]
    rw [byteAt_snoc]
    by_cases h3 : l.length / 8 = k
    · subst h3; simp
    · rw [if_neg h3, if_neg (fun e => h3 e.symm)]; rfl
theorem packO_get (l : List Bool) {k : Nat} (h : k < (packO l).length) : (packO l)[k] = byteAt l k := by simp [packO]
theorem byteAt_low (l : List Bool) : 2 ^ (7 - l.length % 8 + 1) ∣ byteAt l (l.length / 8) := by
  refine sumR_dvd 8 (fun i hi => ?_)
  by_cases h : i < l.length % 8
  · split
    · exact Nat.pow_dvd_pow 2 (by omega)
    · exact Nat.dvd_zero _
  · have h4 : l.getD (8 * (l.length / 8) + i) false = false := by simp [List.getD, List.getElem?_eq_none (show l.length ≤ 8 * (l.length / 8) + i by omega)]
    rw [h4]
    exact Nat.dvd_zero _
theorem or_add {a e : Nat} (h : 2 ^ (e + 1) ∣ a) : a ||| 2 ^ e = a + 2 ^ e := by
  obtain ⟨q, rfl⟩ := h
  rw [Nat.two_pow_add_eq_or_of_lt (Nat.pow_lt_pow_right (by omega) (by omega)) q]
def b2n (x : Bool) : Nat := if x then 1 else 0
theorem byte_or (l : List Bool) (x : Bool) : byteAt l (l.length / 8) ||| b2n x * 2 ^ (7 - l.length % 8) = byteAt l (l.length / 8) + (if x then 2 ^ (7 - l.length % 8) else 0) := by
  cases x
  · simp [b2n]
  · simp only [b2n, if_true, Nat.one_mul]
    exact or_add (byteAt_low l)
theorem byte_or_lt (l : List Bool) (x : Bool) : byteAt l (l.length / 8) + (if x then 2 ^ (7 - l.length % 8) else 0) < 256 := by
  have h := byteAt_lt (l ++ [x]) (l.length / 8)
  rw [byteAt_snoc, if_pos rfl] at h
  exact h
/-! ### a code's bits -/
def bitAt (c n j : Nat) : Bool := decide (c / 2 ^ (n - 1 - j) % 2 = 1)
def bitsK (c n : Nat) : List Bool := (List.range n).map (bitAt c n)
theorem bitsK_len (c n : Nat) : (bitsK c n).length = n := by simp [bitsK]
theorem bitsK_take (c n : Nat) {j : Nat} (h : j < n) : (bitsK c n).take j ++ [bitAt c n j] = (bitsK c n).take (j + 1) := by
  rw [List.take_succ_eq_append_getElem (by rw [bitsK_len]; exact h)]
  simp [bitsK]
theorem b2n_bit (c n j : Nat) : b2n (bitAt c n j) = c / 2 ^ (n - 1 - j) % 2 := by
  unfold b2n bitAt
  by_cases h : c / 2 ^ (n - 1 - j) % 2 = 1
  · simp [h]
  · simp [h]; omega
/-- may be coded -/
def okS (ls : List Int) (s : Int) : Prop := 0 ≤ s ∧ s < ls.length ∧ ln ls s.toNat ≠ 0
instance (ls : List Int) (s : Int) : Decidable (okS ls s) := by unfold okS; infer_instance
def symBits (ls : List Int) (s : Int) : List Bool := bitsK (codeV ls s.toNat) (ln ls s.toNat).toNat
def bitsOf (ls : List Int) (ss : List Int) : List Bool := ss.flatMap (symBits ls)
theorem bitsOf_snoc (ls ss : List Int) (s : Int) : bitsOf ls (ss ++ [s]) = bitsOf ls ss ++ symBits ls s := by simp [bitsOf]
theorem bitsOf_len {ls : List Int} (hg : good ls) : ∀ ss : List Int, (bitsOf ls ss).length ≤ 15 * ss.length
  | [] => by simp [bitsOf]
  | s :: ss => by
    have ih := bitsOf_len hg ss
    have h := ln_good hg s.toNat
    have e : (bitsOf ls (s :: ss)).length = (ln ls s.toNat).toNat + (bitsOf ls ss).length := by
      unfold bitsOf
      rw [List.flatMap_cons, List.length_append]
      congr 1
      exact bitsK_len _ _
    rw [e, List.length_cons]
    omega
theorem or8 {a b : Nat} (ha : a < 256) (hb : b < 256) : (BitVec.ofInt 8 (a : Int) ||| BitVec.ofInt 8 (b : Int)).toNat = a ||| b := by
  rw [BitVec.toNat_or, BitVec.ofInt_natCast, BitVec.ofInt_natCast, BitVec.toNat_ofNat, BitVec.toNat_ofNat, Nat.mod_eq_of_lt (by omega), Nat.mod_eq_of_lt (by omega)]
theorem and16 {a : Nat} (ha : a < 65536) : (BitVec.ofInt 16 (a : Int) &&& BitVec.ofInt 16 1).toNat = a % 2 := by
  rw [BitVec.toNat_and, BitVec.ofInt_natCast, show BitVec.ofInt 16 1 = BitVec.ofNat 16 1 from rfl, BitVec.toNat_ofNat, BitVec.toNat_ofNat, Nat.mod_eq_of_lt (by omega)]
  exact Nat.and_one_is_mod a
end Go.Huf
namespace Go.Huf
section
variable {ls : List Int}
/-- where a symbol's codes begin, in room -/
theorem code_room {s : Nat} (hp : 0 < ln ls s) : codeV ls s * p2 (ln ls s).toNat = preN ls (ln ls s).toNat s := by
  unfold codeV
  rw [if_pos hp]
  exact Nat.div_mul_cancel preN_dvd
/-- whoever stands ahead has its room ahead -/
theorem pre_ahead {a b : Nat} (ha : a < ls.length) (hpa : 0 < ln ls a) (hpb : 0 < ln ls b) (h : ln ls a < ln ls b ∨ ln ls a = ln ls b ∧ a < b) : preN ls (ln ls a).toNat a + p2 (ln ls a).toNat ≤ preN ls (ln ls b).toNat b := by
  have h1 : p2 (ln ls a).toNat = sumR (fun j => if j = a then p2 (ln ls a).toNat else 0) ls.length := by rw [sumR_point, if_pos ha]
  rw [h1]
  unfold preN
  rw [← sumR_add]
  refine sumR_le _ (fun j hj => ?_)
  by_cases hja : j = a
  · subst hja
    rw [if_neg (show ¬ ahead ls (ln ls j).toNat j j by unfold ahead; omega), if_pos (show j = j from rfl), if_pos (show ahead ls (ln ls b).toNat b j by unfold ahead; omega)]
    unfold pj
    rw [if_pos hpa]
    omega
  · rw [if_neg hja]
    by_cases h2 : ahead ls (ln ls a).toNat a j
    · rw [if_pos h2, if_pos (show ahead ls (ln ls b).toNat b j by unfold ahead at *; omega)]
      omega
    · rw [if_neg h2]
      omega
theorem div_back {c a d : Nat} (h : a = c / 2 ^ d) : a * 2 ^ d ≤ c ∧ c < (a + 1) * 2 ^ d := by
  have h1 := Nat.two_pow_pos d
  subst h
  refine ⟨Nat.div_mul_le_self _ _, ?_⟩
  have h2 := Nat.div_add_mod c (2 ^ d)
  have h3 := Nat.mod_lt c h1
  rw [Nat.add_mul, Nat.one_mul, Nat.mul_comm]
  omega
/-- no code is the beginning of another one's -/
theorem code_apart {a b : Nat} (hok : okL ls) (ha : a < ls.length) (hb : b < ls.length) (hpa : 0 < ln ls a) (hab : ln ls a ≤ ln ls b) (h : codeV ls a = codeV ls b / 2 ^ ((ln ls b).toNat - (ln ls a).toNat)) : a = b := by
  have hga := ln_good hok.2.1 a
  have hgb := ln_good hok.2.1 b
  have hpb : 0 < ln ls b := by omega
  have ra := code_room hpa
  have rb := code_room hpb
  obtain ⟨h1, h2⟩ := div_back h
  have hs := p2_sub (m := (ln ls a).toNat) (n := (ln ls b).toNat) (by omega) (by omega)
  have h3 := Nat.mul_le_mul_right (p2 (ln ls b).toNat) h1
  have h4 := Nat.mul_lt_mul_of_pos_right h2 (p2_pos (ln ls b).toNat)
  rw [Nat.mul_assoc, Nat.mul_comm (2 ^ _), ← hs, ra, rb] at h3
  rw [Nat.mul_assoc, Nat.mul_comm (2 ^ _), ← hs, Nat.add_mul, ra, rb, Nat.one_mul] at h4
  apply Classical.byContradiction
  intro hne
  rcases Nat.lt_or_ge a b with hlt | hge
  · have := pre_ahead ha hpa hpb (by omega)
    omega
  · by_cases he : ln ls a = ln ls b
    · have := pre_ahead hb hpb hpa (by omega)
      have hp := p2_pos (ln ls b).toNat
      omega
    · have := pre_ahead ha hpa hpb (by omega)
      omega
end
theorem bit_test (c n j : Nat) : bitAt c n j = c.testBit (n - 1 - j) := by
  unfold bitAt
  rw [Nat.testBit_eq_decide_div_mod_eq]
/-- what has the same bits is the same -/
theorem bits_same {x y n : Nat} (hx : x < 2 ^ n) (hy : y < 2 ^ n) (h : ∀ i, i < n → bitAt x n i = bitAt y n i) : x = y := by
  apply Nat.eq_of_testBit_eq
  intro i
  rcases Nat.lt_or_ge i n with hi | hi
  · have := h (n - 1 - i) (by omega)
    rw [bit_test, bit_test, show n - 1 - (n - 1 - i) = i by omega] at this
    exact this
  · rw [Nat.testBit_lt_two_pow (Nat.lt_of_lt_of_le hx (Nat.pow_le_pow_right (by omega) hi)), Nat.testBit_lt_two_pow (Nat.lt_of_lt_of_le hy (Nat.pow_le_pow_right (by omega) hi))]
theorem bit_head (c : Nat) {n m i : Nat} (hmn : m ≤ n) (hi : i < m) : bitAt (c / 2 ^ (n - m)) m i = bitAt c n i := by
  unfold bitAt
  rw [Nat.div_div_eq_div_mul, ← Nat.pow_add, show n - m + (m - 1 - i) = n - 1 - i by omega]
theorem div_lt_pow {c n m : Nat} (h : c < 2 ^ n) (hmn : m ≤ n) : c / 2 ^ (n - m) < 2 ^ m := by
  rw [Nat.div_lt_iff_lt_mul (Nat.two_pow_pos _), ← Nat.pow_add, show m + (n - m) = n by omega]
  exact h
/-- two symbols' codes fall apart within the shorter one -/
theorem bits_apart {ls : List Int} {a b : Nat} (hok : okL ls) (ha : a < ls.length) (hb : b < ls.length) (hpa : 0 < ln ls a) (hab : ln ls a ≤ ln ls b) (hne : a ≠ b) :
    ¬ ∀ i, i < (ln ls a).toNat → bitAt (codeV ls a) (ln ls a).toNat i = bitAt (codeV ls b) (ln ls b).toNat i := fun h => by
  refine hne (code_apart hok ha hb hpa hab (bits_same (n := (ln ls a).toNat) (codeV_lt hok ha hpa) (div_lt_pow (codeV_lt hok hb (by omega)) (by omega)) (fun i hi => ?_)))
  rw [bit_head _ (by omega) hi]
  exact h i hi
end Go.Huf
