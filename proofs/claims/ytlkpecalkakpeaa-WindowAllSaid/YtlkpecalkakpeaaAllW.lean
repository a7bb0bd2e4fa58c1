/- WindowAll, walked. -/
import Derived.Test.YtlkpecalkakpeaaAw
set_option linter.unusedVariables false
set_option linter.unusedSimpArgs false
namespace Go.Proofs.Ytlkpecalkakpeaa
open Go.RowKit Go.Sal

set_option maxRecDepth 20000 in
theorem all_bad (sz ag : Int) (A B : Option Addr) (n c m d : Nat) (w : World) (h : ¬ (1 ≤ sz ∧ sz ≤ 64 ∧ 1 ≤ ag ∧ ag ≤ 1048576)) :
    Calls Try.prog 5 #[.int .i64 sz, .int .i64 ag, .slice A n c, .slice B m d] w fun e w' => e = .returned (.bool true) ∧ Keep [] w w' := by
  by_cases hs : 1 ≤ sz ∧ sz ≤ 64
  · go_enter Try.func5, Try.ntmps5
    go_wp2_with (first
      | (go_at_call 17; refine (wnewSender_bad _ _ _ h).mono ?_; rintro e w' ⟨rfl, rfl⟩)
      | (go_at_call 8; refine (wnewTaker_ok _ _ hs.1 hs.2).mono ?_; rintro e w' ⟨rfl, rfl⟩)
      | (go_at_call 10; refine (alive_any _).mono ?_; rintro e w' ⟨rfl, hk⟩))
    go_ret
    exact ⟨rfl, (((Keep.refl [] w).alloc _).alloc _).trans hk⟩
  · have hs' : sz < 1 ∨ 64 < sz := by omega
    go_enter Try.func5, Try.ntmps5
    go_wp2_with (first
      | (go_at_call 17; refine (wnewSender_bad _ _ _ h).mono ?_; rintro e w' ⟨rfl, rfl⟩)
      | (go_at_call 8; refine (wnewTaker_bad _ _ hs').mono ?_; rintro e w' ⟨rfl, rfl⟩)
      | (go_at_call 10; refine (alive_any _).mono ?_; rintro e w' ⟨rfl, hk⟩))
    go_ret
    exact ⟨rfl, hk⟩

set_option maxRecDepth 20000 in
set_option maxHeartbeats 16000000 in
theorem all_ok (z : Nat) (ag : Int) (A1 A2 : Option Addr) (n1 c1 n2 c2 : Nat) (w : World) (hs : 1 ≤ (z : Int) ∧ (z : Int) ≤ 64) (ha : 1 ≤ ag ∧ ag ≤ 1048576) (hn1 : n1 ≤ 9223372036854775807) (hn2 : n2 ≤ 9223372036854775807)
    (hrows : ∀ k, k < n1 → ∃ g o v b, A1 = some ⟨g, o, none⟩ ∧ g < w.heap.size ∧ w.cell? ⟨g, o + k, none⟩ = some v ∧ Reads w.heap.size 5 w v b)
    (hlost : ∀ k, k < n2 → ∃ g o b, A2 = some ⟨g, o, none⟩ ∧ g < w.heap.size ∧ w.cell? ⟨g, o + k, none⟩ = some (.bool b)) :
    Calls Try.prog 5 #[.int .i64 (z : Int), .int .i64 ag, .slice A1 n1 c1, .slice A2 n2 c2] w fun e w' => e = .returned (.bool true) ∧ Keep [] w w' := by
  have Hrows := Lib.hid hrows
  have Hlost := Lib.hid hlost
  have HI0 := Lib.hid (@pi_start z ag w)
  obtain ⟨n, hn⟩ : ∃ n : Nat, n = min n1 40 := ⟨_, rfl⟩
  have hn40 : n ≤ 40 := by omega
  have hnn : n ≤ n1 := by omega
  have hmin : ∀ (ts : Array TypeId) (t : TypeId) (W : World), (Builtin.min_ ts t #[.int .i64 (n1 : Int), .int .i64 40]).run Try.prog W = .ok (.int .i64 (n : Int)) W := fun ts t W => by
    rw [Lib.run_min_ints]
    rw [show min (n1 : Int) 40 = (n : Int) by omega]
  clear hrows hlost hn
  go_enter Try.func5, Try.ntmps5
  go_wp2_with (first
    | (go_at_call 17; refine (wnewSender_ok _ _ _ hs ha).mono ?_; rintro e w' ⟨rfl, rfl⟩)
    | (go_at_call 8; refine (wnewTaker_ok _ _ hs.1 hs.2).mono ?_; rintro e w' ⟨rfl, rfl⟩))
  obtain ⟨base, hbase⟩ : ∃ base, base = w.heap.size := ⟨_, rfl⟩
  have HI : Hid (PI base z ag w 0 (((w.alloc (.cells #[.int .i64 (z : Int), .int .i64 ag, .int .i64 0, .int .i64 1, .int .i64 0, .slice none 0 0, .int .i64 0] 77 (0, 0))).alloc (.map #[] 0)).alloc (.cells #[.int .i64 (z : Int), .int .i64 1, .map (some (w.heap.size + 1))] 81 (0, 0)))) := by
    rw [hbase]
    exact HI0
  clear HI0 hmin
  simp only [← hbase] at HI ⊢
  have Hbase := Lib.hid hbase
  clear hbase
  generalize hw1 : (World.alloc _ _) = w1 at HI ⊢
  clear hw1
  go_loopw [14] (fun vi wr => ∃ i : Nat, vi = .int .i64 i ∧ i ≤ n ∧ Hid (PI base z ag w i wr)) (fun vi _ => n - (intOf vi).toNat)
  case atStart => exact ⟨0, rfl, by omega, HI⟩
  case round =>
    obtain ⟨i, rfl, hi, hI⟩ := hrel
    by_cases hlt : i < n
    · as_aux_lemma =>
        obtain ⟨g, o, v, b, rfl, hg, hc0, hr⟩ := Hrows.out i (by omega)
        obtain ⟨Ab, cb, rfl, hbc, hcb, hrr⟩ := id hr
        have hkp := hI.out.kp
        have d0 := (hkp.cell (p := ⟨g, o + i, none⟩) hg (by simp)).trans hc0
        have hr1 := hr.keep hkp noByte_nil
        rw [← Hbase.out] at hr1
        have hp := hI.out.push (by omega) hs.1 (hr1.cut 50) (by rw [List.length_take]; omega)
        have Hp := Lib.hid hp
        have hi1 : i < n1 := by omega
        clear hrr hr hc0 hkp hr1 hp hI
        go_wp2_with (first
          | (go_at_call 11; refine (cut_any _ _ _ _ hbc hcb).mono ?_; rintro e w' ⟨rfl, rfl⟩)
          | (go_at_call 18; refine Hp.out.mono ?_; rintro e w2 ⟨rfl, hI2⟩))
        exact ⟨⟨i + 1, by simp, by omega, Lib.hid hI2⟩, by simp [intOf]; omega⟩
    · obtain rfl : i = n := by omega
      have HA : Hid (AI base z ag w 100 i 0 0 0 wr) := Lib.hid (hI.out.ai.more (by omega))
      clear hI Hrows
      go_wp2_with fail
      go_loopw [17, 18, 19] (fun vn vg vi wr => ∃ (j got : Nat) (N : Int), vn = .int .i64 N ∧ vg = .int .i64 got ∧ vi = .int .i64 j ∧ j ≤ n2 ∧ j ≤ 10 ∧ got ≤ 40 ∧ 0 ≤ N ∧ N ≤ j * 1048576 ∧ Hid (AI base z ag w (100 + 66 * j) i N 0 got wr)) (fun _ _ vi _ => n2 - (intOf vi).toNat)
      case atStart => exact ⟨0, 0, 0, rfl, rfl, rfl, by omega, by omega, by omega, by omega, by omega, HA⟩
      case round =>
        obtain ⟨j, got, N, rfl, rfl, rfl, hj1, hj2, hgot, hN1, hN2, hA⟩ := hrel
        by_cases hlt : j < n2 ∧ j < 10
        · obtain ⟨hlt1, hlt2⟩ := hlt
          as_aux_lemma =>
            have hdue := hA.out.due (by omega) hs (by omega) (by omega) false
            have Hdue := Lib.hid hdue
            clear hdue hA
            go_wp2_with fail
            refine Hdue.out.mono ?_
            rintro e w2 ⟨A, c, out, s1, lv, lq, rfl, hol, hSF, hLI⟩
            have HSF := Lib.hid hSF
            have HLI := Lib.hid hLI
            have hg40 := (hLI.next hSF (by omega)).got_le
            clear hSF hLI Hdue
            go_wp2_with fail
            go_loopw [18, 22] (fun vg vk wr => ∃ (k gt : Nat), vg = .int .i64 gt ∧ vk = .int .i64 k ∧ k ≤ out.length ∧ gt ≤ 40 ∧ Hid (LI base z ag w (100 + 66 * j + 1) s1 lv lq A c out false k gt wr)) (fun _ vk _ => out.length - (intOf vk).toNat)
            case atStart => exact ⟨0, got, rfl, rfl, by omega, by omega, HLI⟩
            case round =>
              obtain ⟨k, gt, rfl, rfl, hk, hgt, hL⟩ := hrel
              rcases Nat.lt_or_ge k out.length with hk1 | hk1
              · obtain ⟨r, hr⟩ : ∃ r : Nat, r = (j + k) % n2 := ⟨_, rfl⟩
                have hrn : r < n2 := by rw [hr]; exact Nat.mod_lt _ (by omega)
                have hrem : ((j : Int) + k).tmod n2 = (r : Int) := by
                  rw [hr, ← Int.natCast_add, ← Int.ofNat_tmod]
                have hwjk : IntKind.i64.wrap ((j : Int) + k) = (j : Int) + k := by rw [IntKind.wrap_i64]; omega
                obtain ⟨g, o, b, rfl, hg, hc0⟩ := Hlost.out r hrn
                have d0 := (hL.out.kp.cell (p := ⟨g, o + r, none⟩) hg (by simp)).trans hc0
                obtain ⟨ga, en, Av, nv, cv, rfl, y0, y1, htk⟩ := hL.out.take hk1 (by omega) hs
                have Htk := Lib.hid htk
                have HLs := Lib.hid hL.out.skip
                have hn2' : ((n2 : Int) == 0) = false := by simp; omega
                clear hr hc0 htk hL
                cases b with
                | true =>
                  clear y0 y1
                  go_wp2
                  exact ⟨⟨k + 1, gt, rfl, by simp, by omega, by omega, HLs⟩, by simp [intOf]; omega⟩
                | false =>
                  go_wp2_with fail
                  refine Htk.out.mono ?_
                  rintro e w3 ⟨A', m', c', rfl, hL3⟩
                  have hg3 := (hL3.next HSF.out (by omega)).got_le
                  have hwg : IntKind.i64.wrap ((gt : Int) + (m' : Int)) = (gt : Int) + m' := by rw [IntKind.wrap_i64]; omega
                  have HL3 := Lib.hid hL3
                  clear hL3 y0 y1
                  go_wp2
                  exact ⟨⟨k + 1, gt + m', by simp, by simp, by omega, by omega, HL3⟩, by simp [intOf]; omega⟩
              · have hwn : IntKind.i64.wrap (N + ag) = N + ag := by rw [IntKind.wrap_i64]; omega
                have HA := Lib.hid ((hL.out.next HSF.out (by omega)).more (K' := 100 + 66 * (j + 1)) (by omega))
                clear hL
                go_wp2
                exact ⟨⟨j + 1, gt, N + ag, rfl, rfl, by simp, by omega, by omega, by omega, by omega, by omega, HA⟩, by simp [intOf]; omega⟩
        · clear Hlost
          by_cases hend : j < n2
          · have hend2 : ¬ (j < 10) := by omega
            as_aux_lemma =>
              have HA := Lib.hid (hA.out.more (K' := 800) (by omega))
              have hi40 : i ≤ 40 := hn40
              obtain ⟨qq, hqq⟩ : ∃ qq : Nat, qq = i / z := ⟨_, rfl⟩
              have hz : 0 < z := by omega
              have hq40 : qq ≤ 40 := by rw [hqq]; exact Nat.le_trans (Nat.div_le_self _ _) hi40
              have hqz := Nat.lt_mul_div_succ i hz
              rw [← hqq] at hqz
              have Hqz := Lib.hid hqz
              have hquo : (i : Int).tdiv (z : Int) = (qq : Int) := by rw [hqq, Int.ofNat_tdiv]
              have hz0 : ((z : Int) == 0) = false := by simp; omega
              have hwq : IntKind.i64.wrap ((qq : Int) + 1) = (qq : Int) + 1 := by rw [IntKind.wrap_i64]; omega
              have hwq2 : IntKind.i64.wrap (qq : Int) = (qq : Int) := by rw [IntKind.wrap_i64]; omega
              clear hqq hqz hA
              go_wp2_with fail
              go_loopw [17, 18, 25] (fun vn vg vi wr => ∃ (t got : Nat) (N : Int), vn = .int .i64 N ∧ vg = .int .i64 got ∧ vi = .int .i64 t ∧ t ≤ qq + 1 ∧ got ≤ 40 ∧ 0 ≤ N ∧ N ≤ (10 + t) * 1048576 ∧ Hid (AI base z ag w (800 + 66 * t) i N (min i (t * z)) got wr)) (fun _ _ vi _ => qq + 1 - (intOf vi).toNat)
              case atStart => exact ⟨0, got, N, rfl, rfl, rfl, by omega, hgot, hN1, by omega, Lib.hid (by simpa using HA.out)⟩
              case round =>
                obtain ⟨t, got, N, rfl, rfl, rfl, ht, hgot, hN1, hN2, hA⟩ := hrel
                rcases Nat.lt_or_ge t (qq + 1) with ht1 | ht1
                · as_aux_lemma =>
                    have hdue := hA.out.due (by omega) hs (by omega) (by omega) true
                    have Hdue := Lib.hid hdue
                    clear hdue hA
                    go_wp2_with fail
                    refine Hdue.out.mono ?_
                    rintro e w2 ⟨A, c, out, s1, lv, lq, rfl, hol, hSF, hLI⟩
                    have HSF := Lib.hid hSF
                    have HLI := Lib.hid hLI
                    clear hSF hLI Hdue
                    go_wp2_with fail
                    go_loopw [18, 28] (fun vg vk wr => ∃ (k gt : Nat), vg = .int .i64 gt ∧ vk = .int .i64 k ∧ k ≤ out.length ∧ gt ≤ 40 ∧ Hid (LI base z ag w (800 + 66 * t + 1) s1 lv lq A c out true k gt wr)) (fun _ vk _ => out.length - (intOf vk).toNat)
                    case atStart => exact ⟨0, got, rfl, rfl, by omega, by omega, HLI⟩
                    case round =>
                      obtain ⟨k, gt, rfl, rfl, hk, hgt, hL⟩ := hrel
                      rcases Nat.lt_or_ge k out.length with hk1 | hk1
                      · obtain ⟨ga, en, Av, nv, cv, rfl, y0, y1, htk⟩ := hL.out.take hk1 (by omega) hs
                        have Htk := Lib.hid htk
                        clear htk hL
                        go_wp2_with fail
                        refine Htk.out.mono ?_
                        rintro e w3 ⟨A', m', c', rfl, hL3⟩
                        have hg3 := (hL3.next HSF.out (by omega)).got_le
                        have hwg : IntKind.i64.wrap ((gt : Int) + (m' : Int)) = (gt : Int) + m' := by rw [IntKind.wrap_i64]; omega
                        have HL3 := Lib.hid hL3
                        clear hL3 y0 y1
                        go_wp2
                        exact ⟨⟨k + 1, gt + m', by simp, by simp, by omega, by omega, HL3⟩, by simp [intOf]; omega⟩
                      · have hD : min i ((t + 1) * z) ≤ min i (t * z) + z := by
                          rw [Nat.succ_mul]
                          omega
                        have hwn : IntKind.i64.wrap (N + ag) = N + ag := by rw [IntKind.wrap_i64]; omega
                        have hacks := hL.out.acks (n := i) (N := N) (D := min i (t * z)) (by omega) hs HSF.out hk1 (by omega) (D' := min i ((t + 1) * z)) (by omega) (Nat.min_le_left _ _)
                        have Hacks := Lib.hid hacks
                        clear hacks hL hD
                        go_wp2_with fail
                        refine Hacks.out.mono ?_
                        rintro e w3 ⟨M, rfl, hack⟩
                        have Hack := Lib.hid hack
                        clear hack
                        go_wp2_with fail
                        refine Hack.out.mono ?_
                        rintro e w4 ⟨f, rfl, hA4⟩
                        have HA4 := Lib.hid (hA4.more (K' := 800 + 66 * (t + 1)) (by omega))
                        clear hA4
                        go_wp2
                        exact ⟨⟨t + 1, gt, N + ag, rfl, rfl, by simp, by omega, by omega, by omega, by omega, HA4⟩, by simp [intOf]; omega⟩
                · obtain rfl : t = qq + 1 := by omega
                  have hmi : min i ((qq + 1) * z) = i := by
                    have := Hqz.out
                    rw [Nat.mul_comm] at this
                    omega
                  have hst := hA.out
                  rw [hmi] at hst
                  obtain ⟨rfl, hst⟩ := hst.state hs.1
                  have Hst := Lib.hid hst
                  clear hst hmi hA
                  go_wp2_with (first
                    | (go_at_call 22; refine Hst.out.mono ?_; rintro e w5 ⟨rfl, hk5⟩)
                    | (go_at_call 10; refine (alive_any _).mono ?_; rintro e w6 ⟨rfl, hk6⟩))
                  go_ret
                  exact ⟨rfl, hk5.trans hk6⟩
          · as_aux_lemma =>
              have HA := Lib.hid (hA.out.more (K' := 800) (by omega))
              have hi40 : i ≤ 40 := hn40
              obtain ⟨qq, hqq⟩ : ∃ qq : Nat, qq = i / z := ⟨_, rfl⟩
              have hz : 0 < z := by omega
              have hq40 : qq ≤ 40 := by rw [hqq]; exact Nat.le_trans (Nat.div_le_self _ _) hi40
              have hqz := Nat.lt_mul_div_succ i hz
              rw [← hqq] at hqz
              have Hqz := Lib.hid hqz
              have hquo : (i : Int).tdiv (z : Int) = (qq : Int) := by rw [hqq, Int.ofNat_tdiv]
              have hz0 : ((z : Int) == 0) = false := by simp; omega
              have hwq : IntKind.i64.wrap ((qq : Int) + 1) = (qq : Int) + 1 := by rw [IntKind.wrap_i64]; omega
              have hwq2 : IntKind.i64.wrap (qq : Int) = (qq : Int) := by rw [IntKind.wrap_i64]; omega
              clear hqq hqz hA
              go_wp2_with fail
              go_loopw [17, 18, 25] (fun vn vg vi wr => ∃ (t got : Nat) (N : Int), vn = .int .i64 N ∧ vg = .int .i64 got ∧ vi = .int .i64 t ∧ t ≤ qq + 1 ∧ got ≤ 40 ∧ 0 ≤ N ∧ N ≤ (10 + t) * 1048576 ∧ Hid (AI base z ag w (800 + 66 * t) i N (min i (t * z)) got wr)) (fun _ _ vi _ => qq + 1 - (intOf vi).toNat)
              case atStart => exact ⟨0, got, N, rfl, rfl, rfl, by omega, hgot, hN1, by omega, Lib.hid (by simpa using HA.out)⟩
              case round =>
                obtain ⟨t, got, N, rfl, rfl, rfl, ht, hgot, hN1, hN2, hA⟩ := hrel
                rcases Nat.lt_or_ge t (qq + 1) with ht1 | ht1
                · as_aux_lemma =>
                    have hdue := hA.out.due (by omega) hs (by omega) (by omega) true
                    have Hdue := Lib.hid hdue
                    clear hdue hA
                    go_wp2_with fail
                    refine Hdue.out.mono ?_
                    rintro e w2 ⟨A, c, out, s1, lv, lq, rfl, hol, hSF, hLI⟩
                    have HSF := Lib.hid hSF
                    have HLI := Lib.hid hLI
                    clear hSF hLI Hdue
                    go_wp2_with fail
                    go_loopw [18, 28] (fun vg vk wr => ∃ (k gt : Nat), vg = .int .i64 gt ∧ vk = .int .i64 k ∧ k ≤ out.length ∧ gt ≤ 40 ∧ Hid (LI base z ag w (800 + 66 * t + 1) s1 lv lq A c out true k gt wr)) (fun _ vk _ => out.length - (intOf vk).toNat)
                    case atStart => exact ⟨0, got, rfl, rfl, by omega, by omega, HLI⟩
                    case round =>
                      obtain ⟨k, gt, rfl, rfl, hk, hgt, hL⟩ := hrel
                      rcases Nat.lt_or_ge k out.length with hk1 | hk1
                      · obtain ⟨ga, en, Av, nv, cv, rfl, y0, y1, htk⟩ := hL.out.take hk1 (by omega) hs
                        have Htk := Lib.hid htk
                        clear htk hL
                        go_wp2_with fail
                        refine Htk.out.mono ?_
                        rintro e w3 ⟨A', m', c', rfl, hL3⟩
                        have hg3 := (hL3.next HSF.out (by omega)).got_le
                        have hwg : IntKind.i64.wrap ((gt : Int) + (m' : Int)) = (gt : Int) + m' := by rw [IntKind.wrap_i64]; omega
                        have HL3 := Lib.hid hL3
                        clear hL3 y0 y1
                        go_wp2
                        exact ⟨⟨k + 1, gt + m', by simp, by simp, by omega, by omega, HL3⟩, by simp [intOf]; omega⟩
                      · have hD : min i ((t + 1) * z) ≤ min i (t * z) + z := by
                          rw [Nat.succ_mul]
                          omega
                        have hwn : IntKind.i64.wrap (N + ag) = N + ag := by rw [IntKind.wrap_i64]; omega
                        have hacks := hL.out.acks (n := i) (N := N) (D := min i (t * z)) (by omega) hs HSF.out hk1 (by omega) (D' := min i ((t + 1) * z)) (by omega) (Nat.min_le_left _ _)
                        have Hacks := Lib.hid hacks
                        clear hacks hL hD
                        go_wp2_with fail
                        refine Hacks.out.mono ?_
                        rintro e w3 ⟨M, rfl, hack⟩
                        have Hack := Lib.hid hack
                        clear hack
                        go_wp2_with fail
                        refine Hack.out.mono ?_
                        rintro e w4 ⟨f, rfl, hA4⟩
                        have HA4 := Lib.hid (hA4.more (K' := 800 + 66 * (t + 1)) (by omega))
                        clear hA4
                        go_wp2
                        exact ⟨⟨t + 1, gt, N + ag, rfl, rfl, by simp, by omega, by omega, by omega, by omega, HA4⟩, by simp [intOf]; omega⟩
                · obtain rfl : t = qq + 1 := by omega
                  have hmi : min i ((qq + 1) * z) = i := by
                    have := Hqz.out
                    rw [Nat.mul_comm] at this
                    omega
                  have hst := hA.out
                  rw [hmi] at hst
                  obtain ⟨rfl, hst⟩ := hst.state hs.1
                  have Hst := Lib.hid hst
                  clear hst hmi hA
                  go_wp2_with (first
                    | (go_at_call 22; refine Hst.out.mono ?_; rintro e w5 ⟨rfl, hk5⟩)
                    | (go_at_call 10; refine (alive_any _).mono ?_; rintro e w6 ⟨rfl, hk6⟩))
                  go_ret
                  exact ⟨rfl, hk5.trans hk6⟩
end Go.Proofs.Ytlkpecalkakpeaa
