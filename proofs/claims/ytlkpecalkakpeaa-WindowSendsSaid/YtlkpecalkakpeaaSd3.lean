/- Ack of the program's sender, walked. -/
import Derived.Test.YtlkpecalkakpeaaSd2
set_option linter.unusedVariables false
set_option linter.unusedSimpArgs false
namespace Go.Sal
/-- an acknowledgement names just what was sent -/
def Named (most all : Int) (M : Nat) : Prop := 0 ≤ all ∧ all ≤ most ∧ ∀ k : Nat, k < 64 → M.testBit k = true → (k : Int) + 2 ≤ most - all
end Go.Sal
namespace Go.Proofs.Ytlkpecalkakpeaa
open Go.RowKit Go.Sal

theorem bit_test {M k : Nat} (hM : M < 18446744073709551616) : bits .and .u64 ((M : Int) / 2 ^ k) 1 = 1 ↔ M.testBit k = true := by
  have h1 : (M : Int) / 2 ^ k = ((M / 2 ^ k : Nat) : Int) := by simp
  have h2 : M / 2 ^ k < 18446744073709551616 := Nat.lt_of_le_of_lt (Nat.div_le_self _ _) hM
  rw [h1, show (1 : Int) = ((1 : Nat) : Int) from rfl, u64_and_nat _ _ h2 (by omega)]
  rw [Nat.testBit_eq_decide_div_mod_eq, Nat.and_one_is_mod]
  simp
  omega
def NamedPost (most all : Int) (M : Nat) (w : World) (e : Ending) (w' : World) : Prop := ∃ r : Bool, e = .returned (.bool r) ∧ (r = true ↔ Named most all M) ∧ w = w'

set_option maxRecDepth 20000 in
theorem named_any (bs : Nat) (sz ag now bse most op all : Int) (M : Nat) (lv : Value) (w : World)
    (hT : SBlk bs sz ag now bse most lv op w) (hM : M < 18446744073709551616) (hm : -1 ≤ most ∧ most ≤ 4611686018427387904) :
    Calls Try.prog 38 #[.pointer (some ⟨bs, 0, none⟩), .int .i64 all, .int .u64 (M : Int)] w (NamedPost most all M w) := by
  have c4 : w.cell? ⟨bs, 4, none⟩ = some (.int .i64 most) := Blk.cell hT 4
  clear hT
  obtain ⟨hm1, hm2⟩ := hm
  by_cases h1 : all < 0
  · have hd : decide (all < 0) = true := by simpa using h1
    go_enter Try.func38, Try.ntmps38
    go_wp2
    go_ret
    exact ⟨false, rfl, by simp [Named]; omega, rfl⟩
  · by_cases h2 : most < all
    · have hd : decide (all < 0) = false := by simpa using h1
      have hd2 : decide (most < all) = true := by simpa using h2
      go_enter Try.func38, Try.ntmps38
      go_wp2
      go_ret
      exact ⟨false, rfl, by simp [Named]; omega, rfl⟩
    · have hd : decide (all < 0) = false := by simpa using h1
      have hd2 : decide (most < all) = false := by simpa using h2
      go_enter Try.func38, Try.ntmps38
      go_wp2
      go_loop [7, 18] (fun _ i => ∃ k : Nat, i = .int .i64 k ∧ k ≤ 64 ∧ Hid (∀ j : Nat, j < k → M.testBit j = true → (j : Int) + 2 ≤ most - all)) (fun _ i => 64 - (intOf i).toNat)
      case atStart => exact ⟨0, rfl, by omega, Lib.hid (fun j hj => by omega)⟩
      case round =>
        obtain ⟨k, rfl, hk, hall⟩ := hrel
        by_cases hk2 : k < 64
        · have hdk : decide ((k : Int) < 64) = true := by simp; omega
          go_wp2
          · rename_i hb1 hb2
            have hb := (bit_test (k := k) hM).1 (by assumption)
            go_ret
            refine ⟨false, rfl, ?_, rfl⟩
            simp only [Bool.false_eq_true, false_iff]
            rintro ⟨_, _, h3⟩
            have := h3 k hk2 hb
            omega
          · rename_i hb1 hb2
            refine ⟨⟨k + 1, by simp, by omega, Lib.hid (fun j hj hjb => ?_)⟩, by simp [intOf]; omega⟩
            rcases Nat.lt_succ_iff_lt_or_eq.1 hj with h | rfl
            · exact hall.out j h hjb
            · omega
          · rename_i hb1
            refine ⟨⟨k + 1, by simp, by omega, Lib.hid (fun j hj hjb => ?_)⟩, by simp [intOf]; omega⟩
            rcases Nat.lt_succ_iff_lt_or_eq.1 hj with h | rfl
            · exact hall.out j h hjb
            · exact absurd ((bit_test hM).2 hjb) (by assumption)
        · obtain rfl : k = 64 := by omega
          go_wp2
          go_ret
          exact ⟨true, rfl, by simp [Named]; exact ⟨by omega, by omega, fun j hj hjb => hall.out j hj hjb⟩, rfl⟩
end Go.Proofs.Ytlkpecalkakpeaa
