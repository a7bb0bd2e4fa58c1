/- small functions of the window seat -/
import Derived.Test.YtlkpecalkakpeaaRows
import Derived.WalkKit
import Derived.WalkSpells
import Derived.WalkLawsBesides
import Derived.BigQuiet
import Derived.Lib.Hide
set_option linter.unusedVariables false
set_option linter.unusedSimpArgs false
namespace Go.Proofs.Ytlkpecalkakpeaa
open Go.RowKit

set_option maxHeartbeats 400000 in
theorem sized_any (a : Int) (w : World) :
    Calls Try.prog 31 #[.int .i64 a] w fun e w' => e = .returned (.bool (decide (1 ≤ a) && decide (a ≤ 64))) ∧ w = w' := by
  by_cases h1 : 1 ≤ a <;> by_cases h2 : a ≤ 64
  all_goals
    go_enter Try.func31, Try.ntmps31
    go_wp2
    go_ret
    exact ⟨by simp [h1, h2]; try omega, rfl⟩

theorem cut_any (A : Option Addr) (n c : Nat) (w : World) (hn : n ≤ c) (hc : c ≤ maxLen) :
    Calls Try.prog 11 #[.slice A n c] w fun e w' => e = .returned (.slice A (min n 50) c) ∧ w = w' := by
  unfold maxLen at hc
  by_cases h : 50 < n
  all_goals
    go_enter Try.func11, Try.ntmps11
    go_wp2
    go_ret
    exact ⟨by simp; try omega, rfl⟩

theorem wnewTaker_bad (a : Int) (w : World) (h : a < 1 ∨ 64 < a) :
    Calls Try.prog 8 #[.int .i64 a] w fun e w' => e = .returned (.tuple #[.pointer none, .int .i64 190]) ∧ w = w' := by
  rcases h with h | h
  · go_enter Try.func8, Try.ntmps8
    go_wp2
    go_ret2
    exact ⟨rfl, rfl⟩
  · by_cases h1 : a < 1
    · omega
    · go_enter Try.func8, Try.ntmps8
      go_wp2
      go_ret2
      exact ⟨rfl, rfl⟩

theorem wnewTaker_ok (a : Int) (w : World) (h : 1 ≤ a) (h' : a ≤ 64) :
    Calls Try.prog 8 #[.int .i64 a] w fun e w' => e = .returned (.tuple #[.pointer (some ⟨w.heap.size + 1, 0, none⟩), .int .i64 0]) ∧
      w' = (w.alloc (.map #[] 0)).alloc (.cells #[.int .i64 a, .int .i64 1, .map (some w.heap.size)] 81 (0, 0)) := by
  have hmm := @run_makeMap Try.prog
  go_enter Try.func8, Try.ntmps8
  go_wp2
  go_ret2
  exact ⟨rfl, rfl⟩

end Go.Proofs.Ytlkpecalkakpeaa
