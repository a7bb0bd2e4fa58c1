/- Rows sorted block by block, on lists alone. -/
import Derived.Test.YtknjjodkpknglaaSoM
set_option linter.unusedVariables false
set_option linter.unusedSimpArgs false
namespace Go.Huf
section
variable (key : Nat → Int)
def sb (s : Nat) (l : List Nat) : List Nat :=
  if h : 0 < s ∧ l ≠ [] then isort key (l.take s) ++ sb s (l.drop s) else []
termination_by l.length
decreasing_by
  have := List.length_pos_iff.2 h.2
  simp only [List.length_drop]
  omega
variable {key}
theorem sb_nil (s : Nat) : sb key s [] = [] := by rw [sb]; simp
theorem sb_cons {s : Nat} {l : List Nat} (hs : 0 < s) (hl : l ≠ []) : sb key s l = isort key (l.take s) ++ sb key s (l.drop s) := by
  rw [sb, dif_pos ⟨hs, hl⟩]
theorem sb_small {s : Nat} {l : List Nat} (hs : 0 < s) (hl : l.length ≤ s) : sb key s l = isort key l := by
  cases l with
  | nil => rw [sb_nil]; rfl
  | cons x l =>
    rw [sb_cons hs (by simp), List.take_of_length_le hl, List.drop_of_length_le hl, sb_nil, List.append_nil]
theorem sb_app {s : Nat} (hs : 0 < s) : ∀ (k : Nat) (x y : List Nat), x.length = k * s → sb key s (x ++ y) = sb key s x ++ sb key s y
  | 0, x, y, h => by
    have : x = [] := List.eq_nil_of_length_eq_zero (by simpa using h)
    subst this
    rw [sb_nil]; rfl
  | k + 1, x, y, h => by
    have h1 : s ≤ x.length := by rw [h, Nat.add_mul]; omega
    have hx : x ≠ [] := fun e => by subst e; simp at h1; omega
    rw [sb_cons hs (by simp [hx]), sb_cons hs hx, List.take_append_of_le_length h1, List.drop_append_of_le_length h1, sb_app hs k (x.drop s) y (by rw [List.length_drop, h, Nat.add_mul]; omega), List.append_assoc]
theorem take_two (l : List Nat) (a s : Nat) : l.take (a + s) = l.take a ++ (l.drop a).take s := List.take_add
theorem sb_len {s : Nat} (hs : 0 < s) (l : List Nat) : (sb key s l).length = l.length := by
  by_cases hl : l = []
  · subst hl; rw [sb_nil]
  · rw [sb_cons hs hl, List.length_append, isort_len, sb_len hs (l.drop s), List.length_take, List.length_drop]
    omega
termination_by l.length
decreasing_by
  have := List.length_pos_iff.2 hl
  simp only [List.length_drop]
  omega
/-- one block more -/
theorem sb_next {s k : Nat} (hs : 0 < s) {l : List Nat} (h : k * s ≤ l.length) : sb key s (l.take (k * s + s)) = sb key s (l.take (k * s)) ++ isort key ((l.drop (k * s)).take s) := by
  rw [take_two, sb_app hs k _ _ (by rw [List.length_take]; omega), sb_small (l := (l.drop (k * s)).take s) hs (by rw [List.length_take]; omega)]
theorem sb_rest {s k : Nat} (hs : 0 < s) {l : List Nat} (h : k * s ≤ l.length) (h2 : l.length ≤ k * s + s) : sb key s l = sb key s (l.take (k * s)) ++ isort key (l.drop (k * s)) := by
  conv => lhs; rw [← List.take_append_drop (k * s) l]
  rw [sb_app hs k _ _ (by rw [List.length_take]; omega), sb_small (l := l.drop (k * s)) hs (by rw [List.length_drop]; omega)]
/-- two blocks at the head -/
theorem sb_two {s : Nat} (hs : 0 < s) {l : List Nat} (h : s < l.length) : sb key s l = isort key (l.take s) ++ isort key ((l.drop s).take s) ++ sb key s (l.drop (s + s)) := by
  rw [sb_cons hs (fun e => by subst e; simp at h), sb_cons (l := l.drop s) hs (fun e => by have := congrArg List.length e; rw [List.length_drop] at this; simp at this; omega), List.drop_drop, List.append_assoc]
theorem isort_two {X Y : List Nat} (hn : (X ++ Y).Nodup) : isort key (isort key X ++ isort key Y) = isort key (X ++ Y) :=
  isort_of_perm (((isort_perm X).append (isort_perm Y)).nodup_iff.2 hn) ((isort_perm X).append (isort_perm Y))
end
end Go.Huf
