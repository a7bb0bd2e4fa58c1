/- slices.SortStableFunc at order's comparison: at fewer than 20; order. -/
import Derived.Test.YtknjjodkpknglaaS2
set_option linter.unusedVariables false
set_option linter.unusedSimpArgs false
namespace Go.Proofs.Ytknjjodkpknglaa
open Go.RowKit Go.Sal Go.Huf
/-- what function f does with a row of at most N: stableCmpFunc (48, with the row's length) -/
def StabOK (N : Nat) : Prop := ∀ (key : Nat → Int) (m base g n cap bx : Nat) (l : List Nat) (w : World), w.ownsRow base 3 1 (.slice (some ⟨g, 0, none⟩) n cap) n (inN l) → Cmp g w key m bx → (∀ x ∈ l, x < m) →
  (∀ x < m, -100 ≤ key x ∧ key x ≤ 100) → l.Pairwise (· < ·) → n ≤ N →
  Calls Try.prog 48 #[.slice (some ⟨g, 0, none⟩) n cap, .int .i64 (n : Nat), .func (.func 43) #[] #[.pointer (some ⟨bx, 0, none⟩)]] w fun e w' =>
    e = .returned (.tuple #[]) ∧ SR w base g n cap (isort key l) w'
theorem stab_small : StabOK 19 := fun key m base g n cap bx l w h hc hm hk hl hn => by
  have hnl := row_n h
  have hi := inssort_any key m base g n cap bx [] l [] w (by simpa using h) hc hm hk hl (by omega)
  simp only [List.length_nil, Nat.zero_add, List.nil_append, List.append_nil] at hi
  rw [← hnl] at hi
  have Hi := Lib.hid hi
  clear hi h hc hm hk hl hnl
  have h20 : ¬ (20 : Int) ≤ n := by omega
  have h20' : ¬ (20 : Int) < n := by omega
  go_enter Try.func48, Try.ntmps48
  go_wp2
  refine wp_loop_rounds 1 ?_
  rw [rounds_succ]
  go_wp2_with (go_at_call 49; refine Hi.out.mono ?_; rintro e w1 ⟨rfl, hS⟩)
  refine wp_loop_rounds 1 ?_
  rw [rounds_succ]
  go_wp2
  refine bodyPost_end (results_none rfl _ _ _) rfl ?_
  exact ⟨rfl, hS⟩
/-- SortStableFunc -/
theorem sort_any {N : Nat} (H : StabOK N) (hN : N ≤ 1000000) (key : Nat → Int) (m base g n cap bx : Nat) (l : List Nat) (w : World) (h : w.ownsRow base 3 1 (.slice (some ⟨g, 0, none⟩) n cap) n (inN l)) (hc : Cmp g w key m bx) (hm : ∀ x ∈ l, x < m)
    (hk : ∀ x < m, -100 ≤ key x ∧ key x ≤ 100) (hl : l.Pairwise (· < ·)) (hn : n ≤ N) :
    Calls Try.prog 42 #[.slice (some ⟨g, 0, none⟩) n cap, .func (.func 43) #[] #[.pointer (some ⟨bx, 0, none⟩)]] w fun e w' =>
      e = .returned (.tuple #[]) ∧ SR w base g n cap (isort key l) w' := by
  have Hi := Lib.hid (H key m base g n cap bx l w h hc hm hk hl hn)
  clear h hc hm hk hl H
  go_enter Try.func42, Try.ntmps42
  go_wp2_with (go_at_call 48; refine Hi.out.mono ?_; rintro e w1 ⟨rfl, hS⟩)
  refine bodyPost_end (results_none rfl _ _ _) rfl ?_
  exact ⟨rfl, hS⟩
end Go.Proofs.Ytknjjodkpknglaa
