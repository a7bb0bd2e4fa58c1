/- The symbols that have a code, by length: on lists alone. -/
import Derived.Test.YtknjjodkpknglaaSoP
set_option linter.unusedVariables false
set_option linter.unusedSimpArgs false
namespace Go.Huf
/-- the symbols that have a code, among the first k -/
def symsK (ls : List Int) (k : Nat) : List Nat := (List.range k).filter fun i => decide (0 < ls.getD i 0)
/-- the symbols that have a code, by length -/
def ord (ls : List Int) : List Nat := isort (fun i => ls.getD i 0) (symsK ls ls.length)
theorem symsK_succ (ls : List Int) (k : Nat) : symsK ls (k + 1) = symsK ls k ++ (if 0 < ls.getD k 0 then [k] else []) := by
  unfold symsK
  rw [List.range_succ, List.filter_append]
  congr 1
  by_cases h : 0 < ls.getD k 0
  · rw [if_pos h, List.filter_cons_of_pos (by simpa using h)]; rfl
  · rw [if_neg h, List.filter_cons_of_neg (by simpa using h)]; rfl
theorem symsK_len (ls : List Int) (k : Nat) : (symsK ls k).length ≤ k := by
  have := List.length_filter_le (fun i => decide (0 < ls.getD i 0)) (List.range k)
  rw [List.length_range] at this
  exact this
theorem symsK_mem {ls : List Int} {k i : Nat} : i ∈ symsK ls k ↔ i < k ∧ 0 < ls.getD i 0 := by
  simp [symsK]
theorem symsK_inc (ls : List Int) (k : Nat) : (symsK ls k).Pairwise (· < ·) := List.pairwise_lt_range.sublist List.filter_sublist
theorem ord_len (ls : List Int) : (ord ls).length = (symsK ls ls.length).length := isort_len _
end Go.Huf
