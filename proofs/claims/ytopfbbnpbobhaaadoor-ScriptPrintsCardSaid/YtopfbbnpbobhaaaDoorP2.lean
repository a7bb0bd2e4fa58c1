/- The reference's plain: the decimal digits. -/
import Derived.Test.YtopfbbnpbobhaaaDoorP1
import Derived.Laws.Concat
import Derived.LoopTactic
import Derived.Deep.LoopGhost
set_option linter.unusedVariables false
set_option linter.unusedSimpArgs false
namespace Go.Proofs.YtopfbbnpbobhaaaDoor
open Go.RowKit Go.Sal

theorem digits_at_i (i : Nat) (hi : i < 10) (W : World) : (Instr.index 9 (.string { data := #[48, 49, 50, 51, 52, 53, 54, 55, 56, 57, 97, 98, 99, 100, 101, 102] }) (.int .i64 (i : Int))).run Tryd.prog W = .ok (.int .u8 ((UInt8.ofNat (48 + i)).toNat : Int)) W := by
  have h : i = 0 ∨ i = 1 ∨ i = 2 ∨ i = 3 ∨ i = 4 ∨ i = 5 ∨ i = 6 ∨ i = 7 ∨ i = 8 ∨ i = 9 := by omega
  rcases h with rfl | rfl | rfl | rfl | rfl | rfl | rfl | rfl | rfl | rfl <;> (rw [run_index_string _ _ _ _ _ Tryd.underlying9]; rfl)
theorem conv1 (a : UInt8) (w : World) : (convert 22 9 (.slice (some ⟨w.heap.size, 0, none⟩) 1 1)).run Tryd.prog (w.alloc (.cells #[.int .u8 (a.toNat : Int)] 5))
    = .ok (.string ⟨[a].toArray⟩) (w.alloc (.cells #[.int .u8 (a.toNat : Int)] 5)) :=
  run_convert_bytes_back (P := Tryd.prog) _ 22 9 5 ⟨w.heap.size, 0, none⟩ 1 [a] Tryd.underlying22 Tryd.underlying5 Tryd.underlying9 (by
    intro j hj
    match j, hj with
    | 0, _ => simp [Addr.add])
/-- what stands when k is left of N -/
def DecInv (N k : Nat) (l : List UInt8) : Prop := (k = 0 → l = Lib.decDigits N) ∧ (0 < k → Lib.decDigits k ++ l = Lib.decDigits N) ∧ l.length ≤ 20
theorem DecInv.step {N k : Nat} {l : List UInt8} (h : DecInv N k l) (hk : 0 < k) (hN : N < 18446744073709551616) : DecInv N (k / 10) (UInt8.ofNat (48 + k % 10) :: l) := by
  have h1 := h.2.1 hk
  have hlen := Lib.nDigits_le20 N hN
  rw [← Lib.decDigits_length, ← h1] at hlen
  simp only [List.length_append, Lib.decDigits_length] at hlen
  have hp := Lib.nDigits_pos k
  rw [decDigits_step] at h1
  by_cases h10 : k < 10
  · rw [if_pos h10] at h1
    have e1 : k / 10 = 0 := by omega
    have e2 : k % 10 = k := by omega
    rw [e1, e2]
    exact ⟨fun _ => h1, fun h => by omega, by simp; omega⟩
  · rw [if_neg h10] at h1
    exact ⟨fun h => by omega, fun _ => h1, by simp; omega⟩
theorem DecInv.start (N : Nat) : DecInv N (N / 10) [UInt8.ofNat (48 + N % 10)] := by
  have h1 := decDigits_step N []
  rw [List.append_nil] at h1
  by_cases h10 : N < 10
  · rw [if_pos h10] at h1
    have e2 : N % 10 = N := by omega
    rw [e2]
    exact ⟨fun _ => h1.symm, fun h => by omega, by simp⟩
  · rw [if_neg h10] at h1
    exact ⟨fun h => by omega, fun _ => h1.symm, by simp⟩
set_option maxRecDepth 20000 in
set_option maxHeartbeats 2000000 in
theorem plain_any (N : Nat) (hN : N ≤ 9223372036854775807) (w : World) : Calls Tryd.prog 27 #[.int .i64 N] w fun e w' => e = .returned (.string ⟨(Lib.decDigits N).toArray⟩) ∧ Keep [] w w' := by
  have hix : ∀ W, (Instr.index 9 (.string { data := #[48, 49, 50, 51, 52, 53, 54, 55, 56, 57, 97, 98, 99, 100, 101, 102] }) (.int .i64 ((N : Int) % 10))).run Tryd.prog W = .ok (.int .u8 ((UInt8.ofNat (48 + N % 10)).toNat : Int)) W := digits_at_i (N % 10) (by omega)
  have hS := Lib.hid (DecInv.start N)
  have hN2 : N < 18446744073709551616 := by omega
  generalize UInt8.ofNat (48 + N % 10) = x at *
  have hcv := conv1 x w
  have hq : IntKind.i64.wrap ((N : Int) / 10) = (N : Int) / 10 := by rw [IntKind.wrap_i64]; omega
  go_enter Tryd.func27, Tryd.ntmps27
  go_wp2
  clear hix hcv
  go_loopw [0, 3] (fun n s wr => ∃ (k : Nat) (l : List UInt8), n = .int .i64 k ∧ s = .string ⟨l.toArray⟩ ∧ Hid (DecInv N k l) ∧ k ≤ 9223372036854775807 ∧ Keep [] w wr) (fun n _ _ => (intOf n).toNat)
  case atStart => exact ⟨N / 10, [x], by simp, rfl, hS, by omega, (Keep.refl [] w).alloc _⟩
  case round =>
    obtain ⟨k, l, rfl, rfl, hI, hk, hkp⟩ := hrel
    by_cases h0 : 0 < k
    · have h0' : (0 : Int) < k := by omega
      have hix : ∀ W, (Instr.index 9 (.string { data := #[48, 49, 50, 51, 52, 53, 54, 55, 56, 57, 97, 98, 99, 100, 101, 102] }) (.int .i64 ((k : Int) % 10))).run Tryd.prog W = .ok (.int .u8 ((UInt8.ofNat (48 + k % 10)).toNat : Int)) W := digits_at_i (k % 10) (by omega)
      have hS2 := Lib.hid (hI.out.step h0 hN2)
      have hll := hI.out.2.2
      generalize UInt8.ofNat (48 + k % 10) = y at *
      have hcv := conv1 y wr
      have hadd : ∀ W : World, (Op.stringOp .add ⟨[y].toArray⟩ ⟨l.toArray⟩).run Tryd.prog W = .ok (.string ⟨(y :: l).toArray⟩) W := fun W => by
        have e : (⟨[y].toArray⟩ : ByteArray) ++ ⟨l.toArray⟩ = ⟨(y :: l).toArray⟩ := by
          apply ByteArray.ext
          simp [ByteArray.data_append]
        exact (run_string_add_sum (P := Tryd.prog) (w := W) ⟨[y].toArray⟩ ⟨l.toArray⟩ (by simp [ByteArray.size]; omega)).trans (by rw [e])
      have hq2 : IntKind.i64.wrap ((k : Int) / 10) = (k : Int) / 10 := by rw [IntKind.wrap_i64]; omega
      go_wp2
      exact ⟨⟨k / 10, y :: l, by simp, rfl, hS2, by omega, hkp.alloc _⟩, by simp [intOf]; omega⟩
    · obtain rfl : k = 0 := by omega
      have hS2 := hI.out.1 rfl
      go_wp2
      go_ret
      subst hS2
      exact ⟨rfl, hkp⟩
end Go.Proofs.YtopfbbnpbobhaaaDoor
