/- CodecBounds, walked. -/
import Derived.Test.YtiejjbdmkgdniaaX6
import Derived.Test.YtiejjbdmkgdniaaUa
set_option linter.unusedVariables false
set_option linter.unusedSimpArgs false
namespace Go.Cod
theorem dec_head {b : List Nat} (h : decC b = 0) : hdC b = 0 ∧ (decT b).length = hdN b := by
  unfold decC at h
  cases hd : decP b with
  | none => rw [hd] at h; cases h
  | some q =>
    rw [(dec_yes hd).1]
    unfold decP at hd
    cases hh : headP b with
    | none => rw [hh] at hd; cases hd
    | some z =>
      obtain ⟨n, p, r⟩ := z
      rw [(hd_yes hh).1, (hd_yes hh).2.2]
      refine ⟨rfl, ?_⟩
      rw [hh] at hd
      simp only at hd
      split at hd
      · split at hd
        · split at hd
          · cases hd
          · split at hd
            · injection hd with hd
              subst hd
              assumption
            · cases hd
        · cases hd
      · split at hd
        · injection hd with hd
          subst hd
          assumption
        · cases hd
end Go.Cod
namespace Go.Proofs.Ytiejjbdmkgdniaa
open Go.RowKit Go.Sal Go.Huf Go.Cod
theorem mkb (N : Nat) (hN : N ≤ 1000000) (w : World) : (Instr.makeSlice 24 (.int .i64 (N : Nat)) (.int .i64 (N : Nat))).run Try.prog w = .ok (.slice (some ⟨w.heap.size, 0, none⟩) N N) (w.alloc (ZB N)) := by
  obtain ⟨i, hi, hz, hs, hby⟩ : ∃ i, Try.prog.info? 5 = some i ∧ i.zero = some (.int .u8 0) ∧ i.size = 1 ∧ i.bytes = 1 := by
    cases hx : Try.prog.info? 5 with
    | none => have := u8info; rw [hx] at this; cases this
    | some i =>
      have := u8info
      rw [hx] at this
      simp only [Option.map_some, Option.some.injEq, Prod.mk.injEq] at this
      exact ⟨i, rfl, this.1, this.2.1, this.2.2⟩
  have := run_make (P := Try.prog) w 24 5 i (.int .u8 0) Try.underlying24 hi hz .i64 .i64 (N : Int) (N : Int) (by omega) (by omega) (by rw [hby]; omega) (by omega)
  rw [this, hs]
  rfl
set_option maxRecDepth 20000 in
theorem tokens_long (n : Nat) (AB : Option Addr) (cB : Nat) (w : World) (hl : 65536 < n) :
    Calls Try.prog 52 #[.slice AB n cB] w fun e w' => e = .returned (.tuple #[.slice none 0 0, .int .i64 2]) ∧ w = w' := by
  have hi : (65536 : Int) < n := by omega
  go_enter Try.func52, Try.ntmps52
  go_wp2
  go_ret2
  exact ⟨rfl, rfl⟩
set_option maxRecDepth 20000 in
theorem encode_long (n : Nat) (AB : Option Addr) (cB : Nat) (w : World) (hl : 65536 < n) :
    Calls Try.prog 18 #[.slice AB n cB] w fun e w' => e = .returned (.tuple #[.slice none 0 0, .int .i64 2]) ∧ Keep [] w w' := by
  go_enter Try.func18, Try.ntmps18
  go_wp2_with (go_at_call 52; refine (tokens_long n AB cB _ hl).mono ?_; rintro e w1 ⟨rfl, rfl⟩)
  go_ret2
  exact ⟨rfl, Keep.refl _ _⟩
set_option maxRecDepth 20000 in
set_option maxHeartbeats 1000000 in
theorem decode_long (n : Nat) (AB : Option Addr) (cB : Nat) (w : World) (hl : 262144 < n) :
    Calls Try.prog 20 #[.slice AB n cB] w fun e w' => e = .returned (.tuple #[.slice none 0 0, .int .i64 2]) ∧ Keep [] w w' := by
  have hle : (262144 : Int) < n := by omega
  have hgt : (n : Int) > 262144 := by omega
  have hleb : decide ((n : Int) > 262144) = true := decide_eq_true hgt
  go_enter_defers Try.func20, Try.ntmps20
  go_wp2
  simp [bodyPostD, Leaves, results, Try.results20, go_sem]
  exact ((Keep.refl [] w).alloc _).alloc _
theorem unpack_long2 (n : Nat) (AB : Option Addr) (cB : Nat) (w : World) (hl : 262144 < n) :
    Calls Try.prog 15 #[.slice AB n cB] w fun e w' => ∃ A c, e = .returned (.tuple #[.slice A 0 c, .int .i64 2]) ∧ Keep [] w w' := by
  refine (unpack_long n AB cB w hl).mono ?_
  rintro e w' ⟨A, c, rfl, _, hk⟩
  exact ⟨A, c, rfl, hk⟩
set_option maxRecDepth 20000 in
set_option maxHeartbeats 2000000 in
theorem law9_any (v : Value) (l0 : List Nat) (z : Int) (w : World) (h : BytArg w v l0) (hz : -9223372036854775808 ≤ z ∧ z ≤ 9223372036854775807) : Calls Try.prog 9 #[v, .int .i64 z] w fun e w' => e = .returned (.bool true) ∧ Keep [] w w' := by
  have Hf := Lib.hid (cut_arg h)
  clear h
  have hl : (l0.take 700).length ≤ 700 := by rw [List.length_take]; omega
  generalize l0.take 700 = l at *
  have HD := Lib.hid (fun (A : Option Addr) (c : Nat) (w1 : World) (hs : BySrc w1 A l) (hc : l.length ≤ c) (hA : ∀ a, A = some a → a.block < w1.heap.size) => decode_any l A c w1 hs hc hA (by omega))
  have HH := Lib.hid (fun (A : Option Addr) (c : Nat) (w1 : World) (hs : BySrc w1 A l) (hc : l.length ≤ c) => head22_any l A c w1 hs hc (by omega))
  have HDH := Lib.hid (@dec_head l)
  by_cases hd : decC l = 0
  · obtain ⟨h1, h2⟩ := HDH.out hd
    unfold RowBE at HD
    unfold HdE at HH
    rw [hd] at HD
    rw [h1, ← h2] at HH
    clear hd h1 h2 HDH
    generalize (decT l).length = dn at *
    generalize hdB l = hb at *
    generalize inB (decT l) = dl at *
    go_enter Try.func9, Try.ntmps9
    go_upto_region 2 with (go_at_call 14; refine Hf.out.mono ?_; rintro e w1 ⟨A, c, rfl, hc, hs, hA, rfl⟩; have Hs := Lib.hid (And.intro hs hA); clear hs hA)
    go_upto_region 3 with (go_at_call 20; refine (HD.out A c _ Hs.out.1 hc Hs.out.2).mono ?_; rintro e w2 ⟨A2, c2, rfl, ho2, hk2⟩; have H2 := Lib.hid hk2; clear ho2 hk2)
    go_upto_region 7 with (go_at_call 22; refine (HH.out A c _ (Hs.out.1.keep H2.out (by simp)) hc).mono ?_; rintro e w3 ⟨rfl, hk3⟩; have H3 := Lib.hid (H2.out.trans hk3); clear hk3)
    clear HD HH Hf
    by_cases h1 : z < 1
    · go_wp2_with (go_at_call 13; refine (alive_any _).mono ?_; rintro e w7 ⟨rfl, hk7⟩; have Hk7 := Lib.hid (H3.out.trans hk7); clear hk7)
      go_ret
      exact ⟨rfl, Hk7.out⟩
    · by_cases h3 : 3 < z
      · go_wp2_with (go_at_call 13; refine (alive_any _).mono ?_; rintro e w7 ⟨rfl, hk7⟩; have Hk7 := Lib.hid (H3.out.trans hk7); clear hk7)
        go_ret
        exact ⟨rfl, Hk7.out⟩
      · obtain ⟨N1, hN1⟩ : ∃ N1 : Nat, (N1 : Int) = 65536 + z := ⟨(65536 + z).toNat, by omega⟩
        obtain ⟨N2, hN2⟩ : ∃ N2 : Nat, (N2 : Int) = 262144 + z := ⟨(262144 + z).toNat, by omega⟩
        have hw1 : IntKind.i64.wrap (65536 + z) = (N1 : Int) := by rw [IntKind.wrap_i64]; omega
        have hw2 : IntKind.i64.wrap (262144 + z) = (N2 : Int) := by rw [IntKind.wrap_i64]; omega
        have m1 := mkb N1 (by omega)
        have m2 := mkb N2 (by omega)
        have E1 := Lib.hid (fun A c w => encode_long N1 A c w (by omega))
        have E2 := Lib.hid (fun A c w => decode_long N2 A c w (by omega))
        have E3 := Lib.hid (fun A c w => unpack_long2 N2 A c w (by omega))
        clear hN1 hN2
        generalize ZB N1 = Z1 at *
        generalize ZB N2 = Z2 at *
        go_upto_region 10 with (go_at_call 18; refine (E1.out _ _ _).mono ?_; rintro e w4 ⟨rfl, hk4⟩; have H4 := Lib.hid ((H3.out.alloc _).trans hk4); clear hk4)
        go_upto_region 11 with (go_at_call 20; refine (E2.out _ _ _).mono ?_; rintro e w5 ⟨rfl, hk5⟩; have H5 := Lib.hid ((H4.out.alloc _).trans hk5); clear hk5)
        go_wp2_with (first
          | (go_at_call 15; refine (E3.out _ _ _).mono ?_; rintro e w6 ⟨A6, c6, rfl, hk6⟩; have H6 := Lib.hid ((H5.out.alloc _).trans hk6); clear hk6)
          | (go_at_call 13; refine (alive_any _).mono ?_; rintro e w7 ⟨rfl, hk7⟩; have Hk7 := Lib.hid (H6.out.trans hk7); clear hk7))
        go_ret
        exact ⟨rfl, Hk7.out⟩
  · have hdb : (decC l == 0) = false := by simpa using hd
    clear hd HDH HH
    unfold RowBE at HD
    generalize decC l = dc at *
    go_enter Try.func9, Try.ntmps9
    go_upto_region 2 with (go_at_call 14; refine Hf.out.mono ?_; rintro e w1 ⟨A, c, rfl, hc, hs, hA, rfl⟩; have Hs := Lib.hid (And.intro hs hA); clear hs hA)
    go_upto_region 7 with (go_at_call 20; refine (HD.out A c _ Hs.out.1 hc Hs.out.2).mono ?_; rintro e w3 ⟨A2, c2, rfl, ho2, hk2⟩; have H3 := Lib.hid hk2; clear ho2 hk2)
    clear HD Hf
    by_cases h1 : z < 1
    · go_wp2_with (go_at_call 13; refine (alive_any _).mono ?_; rintro e w7 ⟨rfl, hk7⟩; have Hk7 := Lib.hid (H3.out.trans hk7); clear hk7)
      go_ret
      exact ⟨rfl, Hk7.out⟩
    · by_cases h3 : 3 < z
      · go_wp2_with (go_at_call 13; refine (alive_any _).mono ?_; rintro e w7 ⟨rfl, hk7⟩; have Hk7 := Lib.hid (H3.out.trans hk7); clear hk7)
        go_ret
        exact ⟨rfl, Hk7.out⟩
      · obtain ⟨N1, hN1⟩ : ∃ N1 : Nat, (N1 : Int) = 65536 + z := ⟨(65536 + z).toNat, by omega⟩
        obtain ⟨N2, hN2⟩ : ∃ N2 : Nat, (N2 : Int) = 262144 + z := ⟨(262144 + z).toNat, by omega⟩
        have hw1 : IntKind.i64.wrap (65536 + z) = (N1 : Int) := by rw [IntKind.wrap_i64]; omega
        have hw2 : IntKind.i64.wrap (262144 + z) = (N2 : Int) := by rw [IntKind.wrap_i64]; omega
        have m1 := mkb N1 (by omega)
        have m2 := mkb N2 (by omega)
        have E1 := Lib.hid (fun A c w => encode_long N1 A c w (by omega))
        have E2 := Lib.hid (fun A c w => decode_long N2 A c w (by omega))
        have E3 := Lib.hid (fun A c w => unpack_long2 N2 A c w (by omega))
        clear hN1 hN2
        generalize ZB N1 = Z1 at *
        generalize ZB N2 = Z2 at *
        go_upto_region 10 with (go_at_call 18; refine (E1.out _ _ _).mono ?_; rintro e w4 ⟨rfl, hk4⟩; have H4 := Lib.hid ((H3.out.alloc _).trans hk4); clear hk4)
        go_upto_region 11 with (go_at_call 20; refine (E2.out _ _ _).mono ?_; rintro e w5 ⟨rfl, hk5⟩; have H5 := Lib.hid ((H4.out.alloc _).trans hk5); clear hk5)
        go_wp2_with (first
          | (go_at_call 15; refine (E3.out _ _ _).mono ?_; rintro e w6 ⟨A6, c6, rfl, hk6⟩; have H6 := Lib.hid ((H5.out.alloc _).trans hk6); clear hk6)
          | (go_at_call 13; refine (alive_any _).mono ?_; rintro e w7 ⟨rfl, hk7⟩; have Hk7 := Lib.hid (H6.out.trans hk7); clear hk7))
        go_ret
        exact ⟨rfl, Hk7.out⟩
end Go.Proofs.Ytiejjbdmkgdniaa
