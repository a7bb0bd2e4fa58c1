/- name, fields. -/
import Derived.Test.YtopfbbnpbobhaaaDoorT0
import Derived.Test.YtopfbbnpbobhaaaDoorQ3
set_option linter.unusedVariables false
set_option linter.unusedSimpArgs false
namespace Go.Proofs.YtopfbbnpbobhaaaDoor
open Go.RowKit Go.Sal

set_option maxRecDepth 20000 in
set_option maxHeartbeats 4000000 in
theorem name_any (k : Int) (w : World) (hk : -9223372036854775808 ≤ k ∧ k ≤ 9223372036854775807) : Calls Tryd.prog 45 #[.int .i64 k] w fun e w' => e = .returned (.string ⟨(nameOf k).toArray⟩) ∧ Keep [] w w' := by
  by_cases h : 1 ≤ k ∧ k ≤ 16
  · have h2 : k = 1 ∨ k = 2 ∨ k = 3 ∨ k = 4 ∨ k = 5 ∨ k = 6 ∨ k = 7 ∨ k = 8 ∨ k = 9 ∨ k = 10 ∨ k = 11 ∨ k = 12 ∨ k = 13 ∨ k = 14 ∨ k = 15 ∨ k = 16 := by omega
    clear h hk
    rcases h2 with rfl | rfl | rfl | rfl | rfl | rfl | rfl | rfl | rfl | rfl | rfl | rfl | rfl | rfl | rfl | rfl
    all_goals
      go_enter Tryd.func45, Tryd.ntmps45
      go_wp2
      go_ret
      exact ⟨rfl, (Keep.refl [] w).alloc _⟩
  · have hn : nameOf k = [] := by
      unfold nameOf
      repeat rw [if_neg (by omega)]
    rw [hn]
    clear hn
    by_cases h1 : k < 1
    · go_enter Tryd.func45, Tryd.ntmps45
      go_wp2
      go_ret
      exact ⟨rfl, (Keep.refl [] w).alloc _⟩
    · have h17 : 17 ≤ k := by omega
      clear h
      go_enter Tryd.func45, Tryd.ntmps45
      go_wp2
      go_ret
      exact ⟨rfl, (Keep.refl [] w).alloc _⟩
set_option maxRecDepth 20000 in
set_option maxHeartbeats 4000000 in
theorem fields_any (k : Int) (w : World) : Calls Tryd.prog 61 #[.int .i64 k] w fun e w' => e = .returned (.string ⟨(fieldsOf k).toArray⟩) ∧ w = w' := by
  by_cases h : k = 1 ∨ k = 2 ∨ k = 3 ∨ k = 9 ∨ k = 10 ∨ k = 11 ∨ k = 12 ∨ k = 13 ∨ k = 14 ∨ k = 15 ∨ k = 16
  · rcases h with rfl | rfl | rfl | rfl | rfl | rfl | rfl | rfl | rfl | rfl | rfl
    all_goals
      go_enter Tryd.func61, Tryd.ntmps61
      go_wp2
      go_ret
      exact ⟨rfl, rfl⟩
  · have hn : fieldsOf k = [97] := by
      unfold fieldsOf
      repeat rw [if_neg (by omega)]
    rw [hn]
    have n1 : (k == 1) = false := by rw [beq_eq_false_iff_ne]; omega
    have n2 : (k == 2) = false := by rw [beq_eq_false_iff_ne]; omega
    have n3 : (k == 3) = false := by rw [beq_eq_false_iff_ne]; omega
    have n9 : (k == 9) = false := by rw [beq_eq_false_iff_ne]; omega
    have n10 : (k == 10) = false := by rw [beq_eq_false_iff_ne]; omega
    have n11 : (k == 11) = false := by rw [beq_eq_false_iff_ne]; omega
    have n12 : (k == 12) = false := by rw [beq_eq_false_iff_ne]; omega
    have n13 : (k == 13) = false := by rw [beq_eq_false_iff_ne]; omega
    have n14 : (k == 14) = false := by rw [beq_eq_false_iff_ne]; omega
    have n15 : (k == 15) = false := by rw [beq_eq_false_iff_ne]; omega
    have n16 : (k == 16) = false := by rw [beq_eq_false_iff_ne]; omega
    clear hn h
    go_enter Tryd.func61, Tryd.ntmps61
    go_wp2
    go_ret
    exact ⟨rfl, rfl⟩
end Go.Proofs.YtopfbbnpbobhaaaDoor
