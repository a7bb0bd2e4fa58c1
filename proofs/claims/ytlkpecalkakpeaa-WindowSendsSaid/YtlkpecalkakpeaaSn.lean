/- WindowSends, walked. -/
import Derived.Test.YtlkpecalkakpeaaSnW
set_option linter.unusedVariables false
set_option linter.unusedSimpArgs false
namespace Go.Proofs.Ytlkpecalkakpeaa
open Go.RowKit Go.Sal

set_option maxRecDepth 20000 in
theorem sends_bad (sz ag : Int) (A : Option Addr) (n c : Nat) (w : World) (h : ¬ (1 ≤ sz ∧ sz ≤ 64 ∧ 1 ≤ ag ∧ ag ≤ 1048576)) :
    Calls Try.prog 6 #[.int .i64 sz, .int .i64 ag, .slice A n c] w fun e w' => e = .returned (.bool true) ∧ Keep [] w w' := by
  go_enter Try.func6, Try.ntmps6
  go_wp2_with (first
    | (go_at_call 17; refine (wnewSender_bad _ _ _ h).mono ?_; rintro e w' ⟨rfl, rfl⟩)
    | (go_at_call 23; refine (rnewSender_bad _ _ _ h).mono ?_; rintro e w' ⟨rfl, rfl⟩)
    | (go_at_call 10; refine (alive_any _).mono ?_; rintro e w' ⟨rfl, hk⟩))
  go_ret
  exact ⟨rfl, hk⟩

set_option maxRecDepth 20000 in
set_option maxHeartbeats 16000000 in
theorem sends_ok (sz ag : Int) (A : Option Addr) (n c : Nat) (w : World) (hs : 1 ≤ sz ∧ sz ≤ 64) (ha : 1 ≤ ag ∧ ag ≤ 1048576) (hn : n ≤ 9223372036854775807)
    (hcell : ∀ k, k < n → ∃ g o kd x N Mo v b, A = some ⟨g, o, none⟩ ∧ g < w.heap.size ∧ w.cell? ⟨g, o + k * 5, none⟩ = some (.int .i64 kd) ∧ w.cell? ⟨g, o + k * 5 + 1, none⟩ = some (.int .i64 x) ∧ w.cell? ⟨g, o + k * 5 + 2, none⟩ = some (.int .i64 N) ∧
      w.cell? ⟨g, o + k * 5 + 3, none⟩ = some (.int .u64 ((Mo : Nat) : Int)) ∧ w.cell? ⟨g, o + k * 5 + 4, none⟩ = some v ∧
      (-9223372036854775808 ≤ x ∧ x ≤ 9223372036854775807) ∧ (-9223372036854775808 ≤ N ∧ N ≤ 9223372036854775807) ∧ Mo < 18446744073709551616 ∧ Reads w.heap.size 5 w v b) :
    Calls Try.prog 6 #[.int .i64 sz, .int .i64 ag, .slice A n c] w fun e w' => e = .returned (.bool true) ∧ Keep [] w w' := by
  have Hcell := Lib.hid hcell
  clear hcell
  have HI0 := Lib.hid (@si_start sz ag w)
  go_enter Try.func6, Try.ntmps6
  go_wp2_with (first
    | (go_at_call 17; refine (wnewSender_ok _ _ _ hs ha).mono ?_; rintro e w' ⟨rfl, rfl⟩)
    | (go_at_call 23; refine (rnewSender_ok _ _ _ hs ha).mono ?_; rintro e w' ⟨rfl, rfl⟩))
  obtain ⟨base, hbase⟩ : ∃ base, base = w.heap.size := ⟨_, rfl⟩
  have HI : Hid (SI base sz ag w 0 0 ((w.alloc (.cells #[.int .i64 sz, .int .i64 ag, .int .i64 0, .int .i64 1, .int .i64 0, .slice none 0 0, .int .i64 0] 77 (0, 0))).alloc (.cells #[.int .i64 sz, .int .i64 ag, .int .i64 0, .slice none 0 0] 70 (0, 0)))) := by
    rw [hbase]
    exact HI0
  clear HI0
  simp only [← hbase] at HI ⊢
  have Hbase := Lib.hid hbase
  clear hbase
  generalize hw1 : (World.alloc _ _) = w1 at HI ⊢
  clear hw1
  go_loopw [11] (fun i wr => ∃ (k : Nat) (now : Int), i = .int .i64 k ∧ k ≤ n ∧ k ≤ 80 ∧ Hid (SI base sz ag w k now wr)) (fun i _ => n - (intOf i).toNat)
  case atStart => exact ⟨0, 0, rfl, by omega, by omega, HI⟩
  case round =>
    obtain ⟨k, now, rfl, hk1, hk2, hI⟩ := hrel
    by_cases hlt : k < n ∧ k < 80
    · obtain ⟨hlt1, hlt2⟩ := hlt
      obtain ⟨g, o, kd, x, N, Mo, v, b, rfl, hg, hc0, hc1, hc2, hc3, hc4, hx, hN, hMo, hr⟩ := Hcell.out k hlt1
      obtain ⟨Ab, cb, rfl, hbc, hcb, hrr⟩ := id hr
      have hkp := hI.out.kp
      have d0 := (hkp.cell (p := ⟨g, o + k * 5, none⟩) hg (by simp)).trans hc0
      have d1 := (hkp.cell (p := ⟨g, o + k * 5 + 1, none⟩) hg (by simp)).trans hc1
      have d2 := (hkp.cell (p := ⟨g, o + k * 5 + 2, none⟩) hg (by simp)).trans hc2
      have d3 := (hkp.cell (p := ⟨g, o + k * 5 + 3, none⟩) hg (by simp)).trans hc3
      have d4 := (hkp.cell (p := ⟨g, o + k * 5 + 4, none⟩) hg (by simp)).trans hc4
      have hx1 : Keep [] wr (wr.alloc (.cells #[.int .i64 kd, .int .i64 x, .int .i64 N, .int .u64 (Mo : Int), .slice Ab b.length cb] 66)) := (Keep.refl [] wr).alloc _
      have HX := Lib.hid (Blk.new wr 66 #[.int .i64 kd, .int .i64 x, .int .i64 N, .int .u64 (Mo : Int), .slice Ab b.length cb])
      have HI1 := Lib.hid (hI.out.keep hx1)
      have hr1 := (hr.keep hkp noByte_nil).keep hx1 noByte_nil
      rw [← Hbase.out] at hr1
      have Hr := Lib.hid hr1
      clear hrr hr hc0 hc1 hc2 hc3 hc4 hkp hx1 hr1 hI
      by_cases k1 : kd = 1
      · subst k1
        as_aux_lemma =>
          obtain ⟨pn, hpush⟩ := HI1.out.push (by omega) hs.1 HX.out (Hr.out.cut 50) (by rw [List.length_take]; omega)
          have Hpush := Lib.hid hpush
          clear hpush
          go_wp2_with (go_at_call 11; refine (cut_any _ _ _ _ hbc hcb).mono ?_; rintro e w' ⟨rfl, rfl⟩)
          refine Hpush.out.mono ?_
          rintro e w2 ⟨rfl, hX2, hp2⟩
          have x4 : w2.cell? ⟨wr.heap.size, 4, none⟩ = some (.slice Ab b.length cb) := hX2.cell 4
          have Hp2 := Lib.hid hp2
          clear hX2 hp2
          go_wp2_with (go_at_call 11; refine (cut_any _ _ _ _ hbc hcb).mono ?_; rintro e w' ⟨rfl, rfl⟩)
          refine Hp2.out.mono ?_
          rintro e w3 ⟨rfl, hI3⟩
          have HIc := Lib.hid hI3
          clear hI3 x4

          obtain ⟨sa, sb, hst⟩ := HIc.out.state (by omega) hs.1
          have Hst := Lib.hid hst
          clear hst
          go_wp2_with (first
            | (go_at_call 22; refine Hst.out.mono ?_; rintro e w7 ⟨rfl, hst2⟩; have Hst2 := Lib.hid hst2; clear hst2)
            | (go_at_call 29; refine Hst2.out.mono ?_; rintro e w8 ⟨rfl, hI8⟩; have HI8 := Lib.hid hI8; clear hI8))
          exact ⟨⟨k + 1, _, by simp, by omega, by omega, HI8⟩, by simp [intOf]; omega⟩
      by_cases k2 : kd = 2
      · subst k2
        as_aux_lemma =>
          go_wp2_with fail
          generalize hw1 : (World.alloc _ _) = w1 at HI1 HX ⊢
          obtain ⟨hn0, hn1, c2⟩ := HI1.out.nowb
          have hmo : ∀ W, Calls Try.prog 19 #[.int .i64 now, .int .i64 x] W fun e w' => e = .returned (.int .i64 (mom now x)) ∧ w' = W := fun W => (moment_any now x W ⟨hn0, hn1⟩ (by omega)).mono (fun _ _ h => ⟨h.1, h.2.symm⟩)
          have Hmo := Lib.hid hmo
          obtain ⟨now', hnow'⟩ : ∃ m, m = mom now x := ⟨_, rfl⟩
          rw [← hnow'] at Hmo
          have x1 : w1.cell? ⟨wr.heap.size, 1, none⟩ = some (.int .i64 x) := HX.out.cell 1
          clear hw1 hmo hnow'
          go_quiet ((go_at_call 19; exact Calls.quiet_of_same (Hmo.out _)))
          obtain ⟨ec, hdue⟩ := (HI1.out.keep ((Keep.refl [] w1).drewN nq)).due (by omega) hs ha now'
          have Hdue := Lib.hid hdue
          clear hdue c2 x1
          go_wp2_with fail
          refine Hdue.out.mono ?_
          rintro e w2 ⟨A2, n2, c2, rfl, hn2, hd2⟩
          have Hd2 := Lib.hid hd2
          clear hd2
          go_wp2_with fail
          refine Hd2.out.mono ?_
          rintro e w3 ⟨A3, n3, c3, nowE, rfl, hI3, hsm⟩
          have HI3 := Lib.hid hI3
          have Hsm := Lib.hid hsm
          clear hI3 hsm
          go_wp2_with fail
          refine Hsm.out.mono ?_
          rintro e w4 ⟨rfl, nn, rfl⟩
          have HIc := Lib.hid (HI3.out.keep ((Keep.refl [] w3).drewN nn))

          obtain ⟨sa, sb, hst⟩ := HIc.out.state (by omega) hs.1
          have Hst := Lib.hid hst
          clear hst
          go_wp2_with (first
            | (go_at_call 22; refine Hst.out.mono ?_; rintro e w7 ⟨rfl, hst2⟩; have Hst2 := Lib.hid hst2; clear hst2)
            | (go_at_call 29; refine Hst2.out.mono ?_; rintro e w8 ⟨rfl, hI8⟩; have HI8 := Lib.hid hI8; clear hI8))
          exact ⟨⟨k + 1, _, by simp, by omega, by omega, HI8⟩, by simp [intOf]; omega⟩
      by_cases k3 : kd = 3
      · subst k3
        as_aux_lemma =>
          have hack := HI1.out.ack (by omega) hs.1 HX.out (all := N) (M := Mo) hMo hN
          have Hack := Lib.hid hack
          clear hack
          go_wp2_with fail
          refine Hack.out.mono ?_
          rintro e w2 ⟨f, ec, rfl, hX2, ha2⟩
          have x2 : w2.cell? ⟨wr.heap.size, 2, none⟩ = some (.int .i64 N) := hX2.cell 2
          have x3 : w2.cell? ⟨wr.heap.size, 3, none⟩ = some (.int .u64 (Mo : Int)) := hX2.cell 3
          have Ha2 := Lib.hid ha2
          clear hX2 ha2
          go_wp2_with fail
          refine Ha2.out.mono ?_
          rintro e w3 ⟨rfl, hI3⟩
          have HIc := Lib.hid hI3
          clear hI3 x2 x3

          obtain ⟨sa, sb, hst⟩ := HIc.out.state (by omega) hs.1
          have Hst := Lib.hid hst
          clear hst
          go_wp2_with (first
            | (go_at_call 22; refine Hst.out.mono ?_; rintro e w7 ⟨rfl, hst2⟩; have Hst2 := Lib.hid hst2; clear hst2)
            | (go_at_call 29; refine Hst2.out.mono ?_; rintro e w8 ⟨rfl, hI8⟩; have HI8 := Lib.hid hI8; clear hI8))
          exact ⟨⟨k + 1, _, by simp, by omega, by omega, HI8⟩, by simp [intOf]; omega⟩
      by_cases k5 : kd = 5
      · subst k5
        as_aux_lemma =>
          have hvoid := HI1.out.void (by omega) hs.1
          have Hvoid := Lib.hid hvoid
          clear hvoid
          go_wp2_with fail
          refine Hvoid.out.mono ?_
          rintro e w2 ⟨rfl, hv2⟩
          have Hv2 := Lib.hid hv2
          clear hv2
          go_wp2_with fail
          refine Hv2.out.mono ?_
          rintro e w3 ⟨rfl, hI3⟩
          have HIc := Lib.hid hI3
          clear hI3

          obtain ⟨sa, sb, hst⟩ := HIc.out.state (by omega) hs.1
          have Hst := Lib.hid hst
          clear hst
          go_wp2_with (first
            | (go_at_call 22; refine Hst.out.mono ?_; rintro e w7 ⟨rfl, hst2⟩; have Hst2 := Lib.hid hst2; clear hst2)
            | (go_at_call 29; refine Hst2.out.mono ?_; rintro e w8 ⟨rfl, hI8⟩; have HI8 := Lib.hid hI8; clear hI8))
          exact ⟨⟨k + 1, _, by simp, by omega, by omega, HI8⟩, by simp [intOf]; omega⟩
      have b1 : (kd == 1) = false := by simpa using k1
      have b2 : (kd == 2) = false := by simpa using k2
      have b3 : (kd == 3) = false := by simpa using k3
      have b5 : (kd == 5) = false := by simpa using k5
      as_aux_lemma =>
          have HIc := Lib.hid HI1.out.later

          obtain ⟨sa, sb, hst⟩ := HIc.out.state (by omega) hs.1
          have Hst := Lib.hid hst
          clear hst
          go_wp2_with (first
            | (go_at_call 22; refine Hst.out.mono ?_; rintro e w7 ⟨rfl, hst2⟩; have Hst2 := Lib.hid hst2; clear hst2)
            | (go_at_call 29; refine Hst2.out.mono ?_; rintro e w8 ⟨rfl, hI8⟩; have HI8 := Lib.hid hI8; clear hI8))
          exact ⟨⟨k + 1, _, by simp, by omega, by omega, HI8⟩, by simp [intOf]; omega⟩
    · have hend : ¬ (k < n) ∨ ¬ (k < 80) := by omega
      have hkp := Lib.hid hI.out.kp
      clear hI Hcell
      by_cases hkn : k < n
      · have hk80 : ¬ (k < 80) := by omega
        clear hend
        go_wp2_with (go_at_call 10; refine (alive_any _).mono ?_; rintro e w' ⟨rfl, hk⟩)
        go_ret
        exact ⟨rfl, hkp.out.trans hk⟩
      · clear hend
        go_wp2_with (go_at_call 10; refine (alive_any _).mono ?_; rintro e w' ⟨rfl, hk⟩)
        go_ret
        exact ⟨rfl, hkp.out.trans hk⟩
end Go.Proofs.Ytlkpecalkakpeaa
