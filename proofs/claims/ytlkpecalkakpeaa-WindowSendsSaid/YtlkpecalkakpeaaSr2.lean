/- The reference's sender: the places of a number's bits, as a row. -/
import Derived.Test.YtlkpecalkakpeaaSr1
set_option linter.unusedVariables false
set_option linter.unusedSimpArgs false
namespace Go.Proofs.Ytlkpecalkakpeaa
open Go.RowKit Go.Sal
theorem intinfo : (Try.prog.info? 3).map (fun i => (i.zero, i.size, i.bytes)) = some (some (.int .i64 0), 1, 8) := by kernel_rfl
def ints (l : List Nat) : List Value := l.map fun (k : Nat) => .int .i64 (k : Int)
theorem bitsF_step {f k X : Nat} (h : X ≠ 0) : bitsF (f + 1) k X = if X % 2 = 1 then k :: bitsF f (k + 1) (X / 2) else bitsF f (k + 1) (X / 2) := by
  rw [bitsF, if_neg h]
theorem ints_one (l : List Nat) : ∀ u ∈ ints l, u.oneCell' = true := by
  intro u hu
  obtain ⟨k, _, rfl⟩ := List.mem_map.1 hu
  rfl
/-- the bits of M: r of them have been looked at -/
def BI (M : Nat) (w : World) (r : Nat) (X : Nat) (A : Option Addr) (n c : Nat) (wr : World) : Prop :=
  X < 2 ^ (64 - r) ∧ ∃ pre : List Nat, pre.length = n ∧ bitsF 64 0 M = pre ++ bitsF (64 - r) r X ∧ wr.ownsRow w.heap.size 3 1 (.slice A n c) n (ints pre) ∧ Keep [] w wr ∧ n ≤ r
theorem rbits_any (M : Nat) (w : World) (hM : M < 18446744073709551616) :
    Calls Try.prog 40 #[.int .u64 (M : Int)] w fun e w' => ∃ A c, e = .returned (.slice A (bitsF 64 0 M).length c) ∧ w'.ownsRow w.heap.size 3 1 (.slice A (bitsF 64 0 M).length c) (bitsF 64 0 M).length (ints (bitsF 64 0 M)) ∧ Keep [] w w' := by
  have H0 : Hid (BI M w 0 M none 0 0 w) := Lib.hid ⟨by simpa using hM, [], rfl, by simp, World.ownsRow_nil _ _ _ _, Keep.refl _ _, Nat.le_refl _⟩
  go_enter Try.func40, Try.ntmps40
  go_wp2
  go_loopw [0, 3, 4] (fun x l k wr => ∃ (r X : Nat) (A : Option Addr) (n c : Nat), x = .int .u64 (X : Int) ∧ l = .slice A n c ∧ k = .int .i64 r ∧ r ≤ 64 ∧ n ≤ r ∧ X < 18446744073709551616 ∧ Hid (BI M w r X A n c wr)) (fun _ _ k _ => 64 - (intOf k).toNat)
  case atStart => exact ⟨0, M, none, 0, 0, rfl, rfl, rfl, by omega, by omega, hM, H0⟩
  case round =>
    obtain ⟨r, X, A, n, c, rfl, rfl, rfl, hr, hn, hX, hI⟩ := hrel
    by_cases h0 : 0 < X
    · obtain ⟨hXr, pre, hpl, hpre, hown, hkp, hnr⟩ := hI.out
      have hr64 : r < 64 := by
        rcases Nat.lt_or_ge r 64 with h | h
        · exact h
        · rw [show 64 - r = 0 by omega] at hXr
          simp at hXr
          omega
      have hf : 64 - r = (64 - (r + 1)) + 1 := by omega
      have hX2 : X / 2 < 2 ^ (64 - (r + 1)) := by
        rw [hf, Nat.pow_succ] at hXr
        omega
      have hst := bitsF_step (f := 64 - (r + 1)) (k := r) (X := X) (by omega)
      rw [hf, hst] at hpre
      clear hst
      have hquo : (X : Int).tdiv 2 = ((X / 2 : Nat) : Int) := by rw [show (2 : Int) = ((2 : Nat) : Int) by rfl, Int.ofNat_tdiv]
      obtain ⟨Y, hY⟩ : ∃ Y, Y = X / 2 := ⟨_, rfl⟩
      rw [← hY] at hquo hX2 hpre
      have hY64 : Y < 18446744073709551616 := by omega
      have hwY : IntKind.u64.wrap (Y : Int) = (Y : Int) := by
        unfold IntKind.wrap
        simp [IntKind.bits, IntKind.signed]
        try omega
      have hwr : IntKind.i64.wrap ((r : Int) + 1) = (r : Int) + 1 := by rw [IntKind.wrap_i64]; omega
      clear hY hf
      by_cases h1 : X % 2 = 1
      · have hrem : (X : Int).tmod 2 = 1 := by
          rw [show (2 : Int) = ((2 : Nat) : Int) by rfl, ← Int.ofNat_tmod, h1]; rfl
        rw [if_pos h1] at hpre
        have hown1 := ownsRow_keep hown ((Keep.refl [] wr).alloc (.cells #[.int .i64 (r : Int)] 3)) (by simp)
        obtain ⟨v', w', hrun, hown', hg, hat⟩ := run_append_src (P := Try.prog) (wr.alloc (.cells #[.int .i64 (r : Int)] 3)) 99 99 3 (.int .i64 0) 1 8 w.heap.size Try.underlying99 intinfo rfl (by omega) (.slice A n c) n (ints pre) hown1
          (some ⟨wr.heap.size, 0, none⟩) 1 1 [.int .i64 (r : Int)] (src_new wr 3 1 [.int .i64 (r : Int)] rfl) (by simp [Value.oneCell']) (by unfold maxLen; omega) (by omega) (by have := hkp.size; simp; omega)
        obtain ⟨A', c', rfl, _⟩ := own_slice hown'
        have HB : Hid (BI M w (r + 1) Y A' (n + 1) c' w') := Lib.hid ⟨hX2, pre ++ [r], by simp [hpl], by rw [hpre]; simp, by simpa [ints] using hown', (hkp.alloc _).grown hg (fun i hi => .inr (hown.lt i (by simpa using hi)).1), by omega⟩
        have Hrun := Lib.hid hrun
        clear hI hXr hpre hown hkp hX2 hown1 hrun hown' hg hat hpl hnr
        have hrun := Hrun.out
        go_wp2_with (at_builtin; refine wpList_append2 (v1 := .slice A n c) (v2 := .slice (some ⟨wr.heap.size, 0, none⟩) 1 1) rfl (.tmp 12) (.tmp 14) rfl rfl rfl hrun ?_)
        exact ⟨⟨r + 1, Y, A', n + 1, c', rfl, rfl, by simp, by omega, by omega, hY64, HB⟩, by simp [intOf]; omega⟩
      · have hrem : (X : Int).tmod 2 = 0 := by
          rw [show (2 : Int) = ((2 : Nat) : Int) by rfl, ← Int.ofNat_tmod, show X % 2 = 0 by omega]; rfl
        rw [if_neg h1] at hpre
        have HB : Hid (BI M w (r + 1) Y A n c wr) := Lib.hid ⟨hX2, pre, hpl, hpre, hown, hkp, by omega⟩
        clear hI hXr hpre hown hkp hX2 hpl hnr
        go_wp2
        exact ⟨⟨r + 1, Y, A, n, c, rfl, rfl, by simp, by omega, by omega, hY64, HB⟩, by simp [intOf]; omega⟩
    · obtain rfl : X = 0 := by omega
      obtain ⟨hXr, pre, hpl, hpre, hown, hkp, hnr⟩ := hI.out
      have hz : bitsF (64 - r) r 0 = [] := by
        cases 64 - r <;> simp [bitsF]
      rw [hz, List.append_nil] at hpre
      have Hp := Lib.hid hpre
      have Hl := Lib.hid hpl
      have Ho := Lib.hid hown
      have Hk := Lib.hid hkp
      clear hI hXr hpre hown hkp hpl hnr hz
      go_wp2
      go_ret
      have hpl := Hl.out
      rw [← Hp.out] at hpl
      refine ⟨A, c, ?_, ?_, Hk.out⟩
      · rw [hpl]; rfl
      · have := Ho.out
        rw [← Hp.out] at this
        rw [hpl]
        exact this
end Go.Proofs.Ytlkpecalkakpeaa
