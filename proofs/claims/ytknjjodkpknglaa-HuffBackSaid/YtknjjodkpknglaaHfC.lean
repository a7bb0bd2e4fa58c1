/- Which lengths are a code's, on lists alone. -/
import Derived.Test.YtknjjodkpknglaaHfS
set_option linter.unusedVariables false
set_option linter.unusedSimpArgs false
namespace Go.Huf
/-- how often k comes -/
def cnt (ls : List Int) (k : Nat) : Nat := ls.countP (fun n => decide (n = (k : Int)))
/-- how many come -/
def some_ (ls : List Int) : Nat := ls.countP (fun n => decide (0 < n))
/-- how much room a code of k bits takes -/
def p2 (k : Nat) : Nat := 2 ^ (15 - k)
theorem p2_le (k : Nat) : 1 ≤ p2 k ∧ p2 k ≤ 32768 := by
  have h1 : 2 ^ (15 - k) ≤ 2 ^ 15 := Nat.pow_le_pow_right (by omega) (by omega)
  have h2 := Nat.two_pow_pos (15 - k)
  simp only [Nat.reducePow] at h1
  unfold p2
  omega
def pw (n : Int) : Int := if 0 < n then p2 n.toNat else 0
def room (ls : List Int) : Int := (ls.map pw).sum
def good (ls : List Int) : Prop := ∀ n ∈ ls, 0 ≤ n ∧ n ≤ 15
def okL (ls : List Int) : Prop := ls.length ≤ 512 ∧ good ls ∧ (some_ ls = 0 ∨ some_ ls = 1 ∧ cnt ls 1 = 1 ∨ room ls = 32768)
instance (ls : List Int) : Decidable (good ls) := by unfold good; infer_instance
instance (ls : List Int) : Decidable (okL ls) := by unfold okL; infer_instance
def chkE (ls : List Int) : Int := if okL ls then 0 else 51
theorem chkE_ok {ls : List Int} (hl : ls.length ≤ 512) (hg : good ls) (h : some_ ls = 0 ∨ some_ ls = 1 ∧ cnt ls 1 = 1 ∨ room ls = 32768) : chkE ls = 0 := by
  unfold chkE
  rw [if_pos (show okL ls from ⟨hl, hg, h⟩)]
theorem chkE_no {ls : List Int} (h : ¬ (some_ ls = 0 ∨ some_ ls = 1 ∧ cnt ls 1 = 1 ∨ room ls = 32768)) : chkE ls = 51 := by
  unfold chkE
  rw [if_neg (show ¬ okL ls from fun h2 => h h2.2.2)]
theorem cnt_le (ls : List Int) (k : Nat) : cnt ls k ≤ ls.length := List.countP_le_length
theorem some_le (ls : List Int) : some_ ls ≤ ls.length := List.countP_le_length
theorem cnt_snoc (ls : List Int) (x : Int) (k : Nat) : cnt (ls ++ [x]) k = cnt ls k + (if x = k then 1 else 0) := by
  unfold cnt
  rw [List.countP_append]
  by_cases h : x = (k : Int) <;> simp [h]
theorem some_snoc (ls : List Int) (x : Int) : some_ (ls ++ [x]) = some_ ls + (if 0 < x then 1 else 0) := by
  unfold some_
  rw [List.countP_append]
  by_cases h : 0 < x <;> simp [h]
theorem room_snoc (ls : List Int) (x : Int) : room (ls ++ [x]) = room ls + pw x := by
  unfold room
  simp [List.sum_append]
theorem pw_range (n : Int) : 0 ≤ pw n ∧ pw n ≤ 32768 := by
  unfold pw
  split
  · have := p2_le n.toNat
    omega
  · omega
theorem room_range : ∀ ls : List Int, 0 ≤ room ls ∧ room ls ≤ 32768 * ls.length
  | [] => by simp [room]
  | x :: ls => by
    have := room_range ls
    have := pw_range x
    unfold room at *
    simp only [List.map_cons, List.sum_cons, List.length_cons]
    omega
theorem some_cnt : ∀ (ls : List Int), good ls → some_ ls + cnt ls 0 = ls.length
  | [], _ => rfl
  | x :: ls, h => by
    have ih := some_cnt ls (fun n hn => h n (by simp [hn]))
    have hx := h x (by simp)
    unfold some_ cnt at *
    rw [List.countP_cons, List.countP_cons, List.length_cons]
    by_cases h0 : 0 < x
    · have h1 : ¬ x = ((0 : Nat) : Int) := by omega
      simp only [h0, h1, decide_true, decide_false, if_true, Bool.false_eq_true, if_false]
      omega
    · have h1 : x = ((0 : Nat) : Int) := by omega
      simp only [h0, decide_false, Bool.false_eq_true, if_false]
      rw [if_pos (by simpa using h1)]
      omega
/-- the room, length by length -/
def rm (ls : List Int) : Nat → Int
  | 0 => 0
  | n + 1 => rm ls n + (cnt ls (n + 1) : Int) * (p2 (n + 1) : Int)
theorem rm_cons (x : Int) (ls : List Int) : ∀ m, m ≤ 15 → rm (x :: ls) m = rm ls m + (if 1 ≤ x ∧ x ≤ m then (p2 x.toNat : Int) else 0)
  | 0, _ => by simp only [rm]; rw [if_neg (by omega)]; rfl
  | m + 1, h => by
    have ih := rm_cons x ls m (by omega)
    have hc : (cnt (x :: ls) (m + 1) : Int) = cnt ls (m + 1) + (if x = ((m + 1 : Nat) : Int) then 1 else 0) := by
      unfold cnt
      rw [List.countP_cons]
      by_cases hx : x = ((m + 1 : Nat) : Int)
      · rw [if_pos hx, if_pos (by simpa using hx)]; omega
      · rw [if_neg hx, if_neg (by simpa using hx)]; omega
    rw [rm, rm, ih, hc]
    by_cases hx : x = ((m + 1 : Nat) : Int)
    · rw [if_pos hx, if_neg (by omega), if_pos (by omega)]
      have : x.toNat = m + 1 := by omega
      rw [this, Int.add_mul]
      omega
    · rw [if_neg hx]
      rw [show ((cnt ls (m + 1) : Int) + 0) = cnt ls (m + 1) by omega]
      by_cases h2 : 1 ≤ x ∧ x ≤ m
      · rw [if_pos h2, if_pos (by omega)]
        omega
      · rw [if_neg h2, if_neg (by omega)]
        omega
theorem rm_room : ∀ (ls : List Int), good ls → rm ls 15 = room ls
  | [], _ => by decide
  | x :: ls, h => by
    have ih := rm_room ls (fun n hn => h n (by simp [hn]))
    have hx := h x (by simp)
    rw [rm_cons x ls 15 (by omega), ih]
    unfold room
    rw [List.map_cons, List.sum_cons]
    have : pw x = if 1 ≤ x ∧ x ≤ (15 : Nat) then (p2 x.toNat : Int) else 0 := by
      unfold pw
      by_cases h0 : 0 < x
      · rw [if_pos h0, if_pos (by omega)]
      · rw [if_neg h0, if_neg (by omega)]
    rw [this]
    omega
theorem rm_small {ls : List Int} (hl : ls.length ≤ 512) : ∀ m, 0 ≤ rm ls m ∧ rm ls m ≤ 16777216 * m
  | 0 => by simp [rm]
  | m + 1 => by
    have ih := rm_small hl m
    have hc := cnt_le ls (m + 1)
    have h1 : cnt ls (m + 1) * p2 (m + 1) ≤ 512 * 32768 := Nat.mul_le_mul (by omega) (p2_le _).2
    have h2 : ((cnt ls (m + 1) : Int) * (p2 (m + 1) : Int)) = ((cnt ls (m + 1) * p2 (m + 1) : Nat) : Int) := by simp
    rw [rm, h2]
    omega
theorem rm_mul {ls : List Int} (hl : ls.length ≤ 512) (m : Nat) : 0 ≤ (cnt ls m : Int) * (p2 m : Int) ∧ (cnt ls m : Int) * (p2 m : Int) ≤ 16777216 := by
  have hc := cnt_le ls m
  have h1 : cnt ls m * p2 m ≤ 512 * 32768 := Nat.mul_le_mul (by omega) (p2_le _).2
  have h2 : ((cnt ls m : Int) * (p2 m : Int)) = ((cnt ls m * p2 m : Nat) : Int) := by simp
  rw [h2]
  omega
end Go.Huf
