/- The reference's tail, decimal. -/
import Derived.Test.YtopfbbnpbobhaaaDoorL1
set_option linter.unusedVariables false
set_option linter.unusedSimpArgs false
namespace Go.Proofs.YtopfbbnpbobhaaaDoor
open Go.RowKit Go.Sal

set_option maxRecDepth 20000 in
set_option maxHeartbeats 4000000 in
theorem tail_any (m : Nat) (hm : m ≤ 9223372036854775807) (w : World) : Calls Tryd.prog 67 #[.int .i64 m] w fun e w' => e = .returned (.string ⟨(Lib.decDigits (m + 1)).toArray⟩) ∧ Keep [] w w' := by
  have hS0 : Hid (DecInv (m + 1) (m + 1) []) := Lib.hid ⟨fun h => by omega, fun _ => by simp, by simp⟩
  have Hm := Lib.hid hm
  have hN2 : Hid (m + 1 < 18446744073709551616) := Lib.hid (by omega)
  clear hm
  go_enter Tryd.func67, Tryd.ntmps67
  go_wp2
  go_loopw [0, 3, 4] (fun n s o wr => ∃ (k c : Nat) (l : List UInt8), n = .int .i64 k ∧ s = .string ⟨l.toArray⟩ ∧ o = .int .i64 c ∧ c ≤ 1 ∧ 0 < k + c ∧ Hid (k ≤ 9223372036854775807) ∧ Hid (DecInv (m + 1) (k + c) l) ∧ Keep [] w wr) (fun n _ o _ => (intOf n + intOf o).toNat)
  case atStart => exact ⟨m, 1, [], rfl, rfl, rfl, by omega, by omega, Hm, hS0, Keep.refl _ _⟩
  case round =>
    obtain ⟨k, c, l, rfl, rfl, rfl, hc, hv, hk, hI, hkp⟩ := hrel
    have hS2 := Lib.hid (hI.out.step hv hN2.out)
    have hll := hI.out.2.2
    have e1 : (k + c) % 10 = (k % 10 + c) % 10 := by omega
    have e2 : (k + c) / 10 = k / 10 + (k % 10 + c) / 10 := by omega
    rw [e1, e2] at hS2
    have hr : k % 10 ≤ 9 := by omega
    have hix : ∀ W, (Instr.index 9 (.string { data := #[48, 49, 50, 51, 52, 53, 54, 55, 56, 57, 97, 98, 99, 100, 101, 102] }) (.int .i64 (((k : Int) % 10 + (c : Int)) % 10))).run Tryd.prog W = .ok (.int .u8 ((UInt8.ofNat (48 + (k % 10 + c) % 10)).toNat : Int)) W := fun W => by
      have := digits_at_i ((k % 10 + c) % 10) (by omega) W
      rw [show (((k % 10 + c) % 10 : Nat) : Int) = ((k : Int) % 10 + (c : Int)) % 10 by omega] at this
      exact this
    have hix2 : ∀ W, (Instr.index 9 (.string { data := #[48, 49, 50, 51, 52, 53, 54, 55, 56, 57, 97, 98, 99, 100, 101, 102] }) (.int .i64 (((k : Int) + (c : Int)) % 10))).run Tryd.prog W = .ok (.int .u8 ((UInt8.ofNat (48 + (k % 10 + c) % 10)).toNat : Int)) W := fun W => by
      have := hix W
      rw [show ((k : Int) % 10 + (c : Int)) % 10 = ((k : Int) + (c : Int)) % 10 by omega] at this
      exact this
    have hci : (c : Int) ≤ 1 := by omega
    have hw1 : IntKind.i64.wrap ((k : Int) % 10 + (c : Int)) = (k : Int) % 10 + (c : Int) := by rw [IntKind.wrap_i64]; omega
    have hw2 : IntKind.i64.wrap (((k : Int) % 10 + (c : Int)) / 10) = ((k : Int) % 10 + (c : Int)) / 10 := by rw [IntKind.wrap_i64]; omega
    have hw3 : IntKind.i64.wrap ((k : Int) / 10) = (k : Int) / 10 := by
      have := hk.out
      rw [IntKind.wrap_i64]; omega
    have hp0 : (0 : Int) ≤ (k : Int) % 10 + (c : Int) := by omega
    have ht1 : ((k : Int) % 10 + (c : Int)).tmod 10 = ((k : Int) % 10 + (c : Int)) % 10 := Int.tmod_eq_emod_of_nonneg (by omega)
    have ht2 : ((k : Int) % 10 + (c : Int)).tdiv 10 = ((k : Int) % 10 + (c : Int)) / 10 := Int.tdiv_eq_ediv_of_nonneg (by omega)
    have ht3 : (k : Int).tmod 10 = (k : Int) % 10 := Int.tmod_eq_emod_of_nonneg (by omega)
    have ht4 : (k : Int).tdiv 10 = (k : Int) / 10 := Int.tdiv_eq_ediv_of_nonneg (by omega)
    generalize UInt8.ofNat (48 + (k % 10 + c) % 10) = y at *
    have hcv := conv1 y wr
    have hadd : ∀ W : World, (Op.stringOp .add ⟨[y].toArray⟩ ⟨l.toArray⟩).run Tryd.prog W = .ok (.string ⟨(y :: l).toArray⟩) W := add_lists (a := [y]) (b := l) (c := y :: l) rfl (by simp; omega)
    have hlt : k / 10 + (k % 10 + c) / 10 < k + c := by omega
    have hc21 : (k % 10 + c) / 10 ≤ 1 := by omega
    have Hlt := Lib.hid hlt
    have Hk2 : Hid (k / 10 ≤ 9223372036854775807) := Lib.hid (by have := hk.out; omega)
    have Hc21 := Lib.hid hc21
    have z1 : ((k / 10 : Nat) : Int) = (k : Int) / 10 := by omega
    have z2 : (((k % 10 + c) / 10 : Nat) : Int) = ((k : Int) % 10 + (c : Int)) / 10 := by omega
    have Z1 := Lib.hid z1
    have Z2 := Lib.hid z2
    clear e1 e2 hr hI hlt hv hc21 z1 z2
    by_cases hk0 : k / 10 = 0
    · have ka : ((k : Int) / 10 == 0) = true := by rw [← Z1.out, hk0]; rfl
      by_cases hc0 : (k % 10 + c) / 10 = 0
      · have ca : (((k : Int) % 10 + (c : Int)) / 10 == 0) = true := by rw [← Z2.out, hc0]; rfl
        have hfin : Hid (y :: l = Lib.decDigits (m + 1)) := Lib.hid (hS2.out.1 (by omega))
        clear hk0 hc0
        go_wp2
        go_ret
        rw [← hfin.out]
        exact ⟨rfl, hkp.alloc _⟩
      · have ca : (((k : Int) % 10 + (c : Int)) / 10 == 0) = false := by rw [beq_eq_false_iff_ne, ← Z2.out]; omega
        have hpos : Hid (0 < k / 10 + (k % 10 + c) / 10) := Lib.hid (by omega)
        clear hk0 hc0
        go_wp2
        go_roundw
        case rel => exact ⟨k / 10, (k % 10 + c) / 10, y :: l, by rw [Z1.out], rfl, by rw [Z2.out], Hc21.out, hpos.out, Hk2, hS2, hkp.alloc _⟩
        case measure => have := Hlt.out; simp [intOf]; omega
    · have ka : ((k : Int) / 10 == 0) = false := by rw [beq_eq_false_iff_ne, ← Z1.out]; omega
      have hpos : Hid (0 < k / 10 + (k % 10 + c) / 10) := Lib.hid (by omega)
      clear hk0
      go_wp2
      go_roundw
      case rel => exact ⟨k / 10, (k % 10 + c) / 10, y :: l, by rw [Z1.out], rfl, by rw [Z2.out], Hc21.out, hpos.out, Hk2, hS2, hkp.alloc _⟩
      case measure => have := Hlt.out; simp [intOf]; omega
theorem decimal_any (n : Int) (h : -9223372036854775808 ≤ n ∧ n ≤ 9223372036854775807) (w : World) : Calls Tryd.prog 53 #[.int .i64 n] w fun e w' => e = .returned (.string ⟨(Lib.itoa n).toArray⟩) ∧ Keep [] w w' := by
  by_cases hn : n < 0
  · obtain ⟨m, hm⟩ : ∃ m : Nat, -(n + 1) = (m : Int) := ⟨(-(n + 1)).toNat, by omega⟩
    have hmb : m ≤ 9223372036854775807 := by omega
    have hit : Lib.itoa n = 45 :: Lib.decDigits (m + 1) := by
      unfold Lib.itoa
      rw [if_pos hn, show n.natAbs = m + 1 by omega]
    have hlen : (Lib.decDigits (m + 1)).length ≤ 20 := by rw [Lib.decDigits_length]; exact Lib.nDigits_le20 _ (by omega)
    have hadd : ∀ W : World, (Op.stringOp .add ⟨#[45]⟩ ⟨(Lib.decDigits (m + 1)).toArray⟩).run Tryd.prog W = .ok (.string ⟨(45 :: Lib.decDigits (m + 1)).toArray⟩) W := add_lists (a := [45]) (b := Lib.decDigits (m + 1)) (c := 45 :: Lib.decDigits (m + 1)) rfl (by simp; omega)
    have HW : Hid (wrap64 (-wrap64 (n + 1)) = (m : Int)) := Lib.hid (by unfold wrap64; omega)
    rw [hit]
    have Ht := Lib.hid (tail_any m hmb w)
    generalize Lib.decDigits (m + 1) = dd at *
    have Hm := Lib.hid hm
    clear hit hlen hmb h hm
    go_enter Tryd.func53, Tryd.ntmps53
    go_wp2_with (fail)
    rw [HW.out]
    refine Ht.out.mono ?_
    rintro e w2 ⟨rfl, hk2⟩
    go_wp2
    go_ret
    exact ⟨rfl, hk2⟩
  · obtain ⟨m, rfl⟩ : ∃ m : Nat, n = (m : Int) := ⟨n.toNat, by omega⟩
    have hit : Lib.itoa (m : Int) = Lib.decDigits m := by unfold Lib.itoa; rw [if_neg hn]; rfl
    rw [hit]
    have Ht := Lib.hid (plain_any m (by omega) w)
    clear hit h
    go_enter Tryd.func53, Tryd.ntmps53
    go_wp2_with (go_at_call 27; refine Ht.out.mono ?_; rintro e w2 ⟨rfl, hk2⟩)
    go_ret
    exact ⟨rfl, hk2⟩
end Go.Proofs.YtopfbbnpbobhaaaDoor
