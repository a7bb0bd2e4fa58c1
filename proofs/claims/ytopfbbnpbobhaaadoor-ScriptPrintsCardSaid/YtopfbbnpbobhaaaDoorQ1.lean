/- The reference's digit and count. -/
import Derived.Test.YtopfbbnpbobhaaaDoorP8
set_option linter.unusedVariables false
set_option linter.unusedSimpArgs false
namespace Go.Proofs.YtopfbbnpbobhaaaDoor
open Go.RowKit Go.Sal

theorem dg16_hx : ∀ i : Fin 16, dg16 (hx i.val) = (i.val : Int) := by decide
theorem dg16_none_fin : ∀ c : Fin 256, (∀ i : Fin 16, hx i.val ≠ UInt8.ofNat c.val) → dg16 (UInt8.ofNat c.val) = -1 := by decide +kernel
theorem dg16_none (c : UInt8) (h : ∀ i, i < 16 → hx i ≠ c) : dg16 c = -1 := by
  have := dg16_none_fin ⟨c.toNat, c.toNat_lt⟩
  simp only [UInt8.ofNat_toNat] at this
  exact this (fun i => h i.val i.isLt)
theorem digits_at16 (i : Nat) (hi : i < 16) (W : World) : (Instr.index 9 (.string { data := #[48, 49, 50, 51, 52, 53, 54, 55, 56, 57, 97, 98, 99, 100, 101, 102] }) (.int .i64 (i : Int))).run Tryd.prog W = .ok (.int .u8 ((hx i).toNat : Int)) W := by
  have h : i = 0 ∨ i = 1 ∨ i = 2 ∨ i = 3 ∨ i = 4 ∨ i = 5 ∨ i = 6 ∨ i = 7 ∨ i = 8 ∨ i = 9 ∨ i = 10 ∨ i = 11 ∨ i = 12 ∨ i = 13 ∨ i = 14 ∨ i = 15 := by omega
  rcases h with rfl | rfl | rfl | rfl | rfl | rfl | rfl | rfl | rfl | rfl | rfl | rfl | rfl | rfl | rfl | rfl <;> (rw [run_index_string _ _ _ _ _ Tryd.underlying9]; rfl)
set_option maxRecDepth 20000 in
set_option maxHeartbeats 2000000 in
theorem rdigit_any (c : UInt8) (w : World) : Calls Tryd.prog 19 #[.int .u8 (c.toNat : Int)] w fun e w' => e = .returned (.int .i64 (dg16 c)) ∧ w = w' := by
  go_enter Tryd.func19, Tryd.ntmps19
  go_wp2
  go_loop [3] (fun u => ∃ i : Nat, u = .int .i64 i ∧ i ≤ 16 ∧ Hid (∀ j, j < i → hx j ≠ c)) (fun u => 16 - (intOf u).toNat)
  case atStart => exact ⟨0, rfl, by omega, Lib.hid (fun j hj => absurd hj (Nat.not_lt_zero j))⟩
  case round =>
    obtain ⟨i, rfl, hi, hI⟩ := hrel
    rcases Nat.lt_or_ge i 16 with hlt | hge
    · have hil : (i : Int) < 16 := by omega
      have hix := digits_at16 i hlt
      by_cases he : hx i = c
      · have heb : (((hx i).toNat : Int) == (c.toNat : Int)) = true := by rw [he]; simp
        have heb2 : ((hx i).toNat == c.toNat) = true := by rw [he]; simp
        have hdv : dg16 c = (i : Int) := by rw [← he]; exact dg16_hx ⟨i, hlt⟩
        have Hdv := Lib.hid hdv
        generalize hx i = y at *
        clear hI he hdv
        go_wp2
        go_ret
        rw [Hdv.out]
        exact ⟨rfl, rfl⟩
      · have heb2 : ((hx i).toNat == c.toNat) = false := by
          rw [beq_eq_false_iff_ne]
          exact fun e => he (UInt8.toNat_inj.1 e)
        have heb : (((hx i).toNat : Int) == (c.toNat : Int)) = false := by
          rw [beq_eq_false_iff_ne] at heb2 ⊢
          omega
        have HS : Hid (∀ j, j < i + 1 → hx j ≠ c) := Lib.hid (fun j hj => by
          rcases Nat.lt_succ_iff_lt_or_eq.1 hj with h | rfl
          · exact hI.out j h
          · exact he)
        generalize hx i = y at *
        clear hI he
        go_wp2
        go_round
        case rel => exact ⟨i + 1, by simp, by omega, HS⟩
        case measure => simp [intOf]; omega
    · obtain rfl : i = 16 := by omega
      have Hdv := Lib.hid (dg16_none c hI.out)
      clear hI
      go_wp2
      go_ret
      rw [Hdv.out]
      exact ⟨rfl, rfl⟩
theorem cntR_nil (most n i : Nat) : cntR most [] n i = (0, i, false) := rfl
theorem cntR_yes {most n i : Nat} {c : UInt8} {t : List UInt8} (h : c = 44 ∧ 5 ≤ n) : cntR most (c :: t) n i = (n, i + 1, true) := by rw [cntR, if_pos h]
theorem cntR_no1 {most n i : Nat} {c : UInt8} {t : List UInt8} (h : ¬ (c = 44 ∧ 5 ≤ n)) (h2 : isDec c = false ∨ n = 0 ∧ c = 48) : cntR most (c :: t) n i = (0, i, false) := by rw [cntR, if_neg h, if_pos h2]
theorem cntR_no2 {most n i : Nat} {c : UInt8} {t : List UInt8} (h : ¬ (c = 44 ∧ 5 ≤ n)) (h2 : ¬ (isDec c = false ∨ n = 0 ∧ c = 48)) (h3 : most < n * 10 + (c.toNat - 48) ∨ n * 10 + (c.toNat - 48) < 5 ∧ most < (n * 10 + (c.toNat - 48)) * 10) : cntR most (c :: t) n i = (0, i, false) := by rw [cntR, if_neg h, if_neg h2, if_pos h3]
theorem cntR_go {most n i : Nat} {c : UInt8} {t : List UInt8} (h : ¬ (c = 44 ∧ 5 ≤ n)) (h2 : ¬ (isDec c = false ∨ n = 0 ∧ c = 48)) (h3 : ¬ (most < n * 10 + (c.toNat - 48) ∨ n * 10 + (c.toNat - 48) < 5 ∧ most < (n * 10 + (c.toNat - 48)) * 10)) : cntR most (c :: t) n i = cntR most t (n * 10 + (c.toNat - 48)) (i + 1) := by rw [cntR, if_neg h, if_neg h2, if_neg h3]
def CntV (r : Nat × Nat × Bool) : Value := .tuple #[.int .i64 (r.1 : Int), .int .i64 (r.2.1 : Int), .bool r.2.2]
set_option maxRecDepth 20000 in
set_option maxHeartbeats 4000000 in
theorem rcount_any (t : List UInt8) (most : Nat) (w : World) (ht : t.length ≤ 1000) (hm : most ≤ 1048577) : Calls Tryd.prog 18 #[.string ⟨t.toArray⟩, .int .i64 most] w fun e w' => e = .returned (CntV (cntR most t 0 0)) ∧ w = w' := by
  have htl : (t.length : Int) ≤ 1000 := by omega
  have hml : (most : Int) ≤ 1048577 := by omega
  go_enter Tryd.func18, Tryd.ntmps18
  go_wp2
  go_loop [7, 8] (fun u v => ∃ (n i : Nat), u = .int .i64 n ∧ v = .int .i64 i ∧ i ≤ t.length ∧ n ≤ 1048577 ∧ Hid (cntR most t 0 0 = cntR most (t.drop i) n i)) (fun _ v => t.length - (intOf v).toNat)
  case atStart => exact ⟨0, 0, rfl, rfl, by omega, by omega, Lib.hid rfl⟩
  case round =>
    obtain ⟨n, i, rfl, rfl, hi, hn, hR⟩ := hrel
    have hn' : (n : Int) ≤ 1048577 := by omega
    rcases Nat.lt_or_ge i t.length with hlt | hge
    · have hil : (i : Int) < (t.length : Int) := by omega
      have hix := str_at t i hlt
      have hR2 := hR.out
      rw [List.drop_eq_getElem_cons hlt] at hR2
      have HR := Lib.hid hR2
      clear hR hR2
      generalize t[i] = c at *
      have hcb := c.toNat_lt
      have hw1 : IntKind.i64.wrap ((i : Int) + 1) = (i : Int) + 1 := by rw [IntKind.wrap_i64]; omega
      by_cases h44 : c = 44
      · have h44a : ((c.toNat : Int) == 44) = true := by rw [h44]; rfl
        have h44b : (c.toNat == 44) = true := by rw [h44]; rfl
        have h44c : (c.toNat : Int) < 48 := by rw [h44]; decide
        by_cases h5 : 5 ≤ n
        · have h5' : (5 : Int) ≤ (n : Int) := by omega
          have HX := Lib.hid (HR.out.trans (cntR_yes ⟨h44, h5⟩))
          clear HR h44
          go_wp2
          go_ret3
          rw [HX.out]
          exact ⟨rfl, rfl⟩
        · have h5' : ¬ (5 : Int) ≤ (n : Int) := by omega
          have HX := Lib.hid (HR.out.trans (cntR_no1 (fun h => h5 h.2) (.inl (by rw [h44]; rfl))))
          clear HR h44
          go_wp2
          go_ret3
          rw [HX.out]
          exact ⟨rfl, rfl⟩
      · have h44n : c.toNat ≠ 44 := fun e => h44 (UInt8.toNat_inj.1 e)
        have h44a : ((c.toNat : Int) == 44) = false := by rw [beq_eq_false_iff_ne]; omega
        have h44b : (c.toNat == 44) = false := by simpa using h44n
        have h44d : ¬ (c = 44 ∧ 5 ≤ n) := fun h => h44 h.1
        have H44 := Lib.hid h44d
        clear h44 h44n h44d
        by_cases h48 : (c.toNat : Int) < 48
        · have HX := Lib.hid (HR.out.trans (cntR_no1 H44.out (.inl (by simp [isDec]; omega))))
          clear HR
          go_wp2
          go_ret3
          rw [HX.out]
          exact ⟨rfl, rfl⟩
        · by_cases h57 : (57 : Int) < (c.toNat : Int)
          · have HX := Lib.hid (HR.out.trans (cntR_no1 H44.out (.inl (by simp [isDec]; omega))))
            clear HR
            go_wp2
            go_ret3
            rw [HX.out]
            exact ⟨rfl, rfl⟩
          · have hdec : isDec c = true := by simp [isDec]; omega
            have Hdec := Lib.hid hdec
            clear hdec
            by_cases hz : n = 0 ∧ c = 48
            · have HX := Lib.hid (HR.out.trans (cntR_no1 H44.out (.inr hz)))
              have hzb : ((c.toNat : Int) == 48) = true := by rw [hz.2]; rfl
              have hzc : (c.toNat == 48) = true := by rw [hz.2]; rfl
              obtain ⟨rfl, _⟩ := hz
              clear HR
              go_wp2
              go_ret3
              rw [HX.out]
              exact ⟨rfl, rfl⟩
            · have hno : ¬ (isDec c = false ∨ n = 0 ∧ c = 48) := by
                rintro (h | h)
                · rw [Hdec.out] at h; cases h
                · exact hz h
              have Hno := Lib.hid hno
              obtain ⟨m, hmv⟩ : ∃ m : Nat, m = n * 10 + (c.toNat - 48) := ⟨_, rfl⟩
              have hmi : IntKind.i64.wrap ((n : Int) * 10 + ((c.toNat : Int) - 48)) = (m : Int) := by rw [IntKind.wrap_i64]; omega
              have hmj : (n : Int) * 10 + ((c.toNat : Int) - 48) = (m : Int) := by omega
              have hmb : m ≤ 10485779 := by omega
              have Hmv := Lib.hid hmv
              have hk2 : ¬ (c.toNat : Int) < 48 := h48
              have hwu : IntKind.u8.wrap ((c.toNat : Int) - 48) = (c.toNat : Int) - 48 := by rw [IntKind.wrap_u8]; omega
              have hw2 : IntKind.i64.wrap ((m : Int) * 10) = (m : Int) * 10 := by rw [IntKind.wrap_i64]; omega
              clear hno hmv
              have Hz := Lib.hid hz
              by_cases hn0 : n = 0
              · have hc48 : c.toNat ≠ 48 := fun e => hz ⟨hn0, UInt8.toNat_inj.1 e⟩
                have hn0' : (n : Int) = 0 := by omega
                have hz0a : ((n : Int) == 0) = true := by rw [hn0]; rfl
                have hz0b : (n == 0) = true := by rw [hn0]; rfl
                have hcz : ((c.toNat : Int) == 48) = false := by rw [beq_eq_false_iff_ne]; omega
                have hcz2 : (c.toNat == 48) = false := by simpa using hc48
                have hz0c : ¬ (0 : Int) < (n : Int) := by omega
                clear hn0' hc48 hn0
                have HmN := Lib.hid hmi
                have HmJ := Lib.hid hmj
                clear hz
                by_cases hgt : (most : Int) < (m : Int)
                · have HX := Lib.hid (HR.out.trans (cntR_no2 H44.out Hno.out (.inl (by rw [← Hmv.out]; omega))))
                  clear HR
                  go_wp2
                  go_ret3
                  rw [HX.out]
                  exact ⟨rfl, rfl⟩
                · by_cases hm5 : (m : Int) < 5
                  · by_cases hm10 : (most : Int) < (m : Int) * 10
                    · have HX := Lib.hid (HR.out.trans (cntR_no2 H44.out Hno.out (.inr (by rw [← Hmv.out]; omega))))
                      clear HR
                      go_wp2
                      go_ret3
                      rw [HX.out]
                      exact ⟨rfl, rfl⟩
                    · have HX := Lib.hid (HR.out.trans (cntR_go H44.out Hno.out (by rw [← Hmv.out]; omega)))
                      clear HR
                      go_wp2
                      go_round
                      case rel => exact ⟨m, i + 1, rfl, by simp, by omega, by omega, by rw [Hmv.out]; exact HX⟩
                      case measure => simp [intOf]; omega
                  · have HX := Lib.hid (HR.out.trans (cntR_go H44.out Hno.out (by rw [← Hmv.out]; omega)))
                    clear HR
                    go_wp2
                    go_round
                    case rel => exact ⟨m, i + 1, rfl, by simp, by omega, by omega, by rw [Hmv.out]; exact HX⟩
                    case measure => simp [intOf]; omega
              · have hz0a : ((n : Int) == 0) = false := by rw [beq_eq_false_iff_ne]; omega
                have hz0b : (n == 0) = false := by simpa using hn0
                clear hn0
                have HmN := Lib.hid hmi
                have HmJ := Lib.hid hmj
                clear hz
                by_cases hgt : (most : Int) < (m : Int)
                · have HX := Lib.hid (HR.out.trans (cntR_no2 H44.out Hno.out (.inl (by rw [← Hmv.out]; omega))))
                  clear HR
                  go_wp2
                  go_ret3
                  rw [HX.out]
                  exact ⟨rfl, rfl⟩
                · by_cases hm5 : (m : Int) < 5
                  · by_cases hm10 : (most : Int) < (m : Int) * 10
                    · have HX := Lib.hid (HR.out.trans (cntR_no2 H44.out Hno.out (.inr (by rw [← Hmv.out]; omega))))
                      clear HR
                      go_wp2
                      go_ret3
                      rw [HX.out]
                      exact ⟨rfl, rfl⟩
                    · have HX := Lib.hid (HR.out.trans (cntR_go H44.out Hno.out (by rw [← Hmv.out]; omega)))
                      clear HR
                      go_wp2
                      go_round
                      case rel => exact ⟨m, i + 1, rfl, by simp, by omega, by omega, by rw [Hmv.out]; exact HX⟩
                      case measure => simp [intOf]; omega
                  · have HX := Lib.hid (HR.out.trans (cntR_go H44.out Hno.out (by rw [← Hmv.out]; omega)))
                    clear HR
                    go_wp2
                    go_round
                    case rel => exact ⟨m, i + 1, rfl, by simp, by omega, by omega, by rw [Hmv.out]; exact HX⟩
                    case measure => simp [intOf]; omega
    · obtain rfl : i = t.length := by omega
      have hil : ¬ (t.length : Int) < (t.length : Int) := by omega
      have HX := Lib.hid (hR.out.trans (by rw [List.drop_length, cntR_nil]))
      clear hR
      go_wp2
      go_ret3
      rw [HX.out]
      exact ⟨rfl, rfl⟩
end Go.Proofs.YtopfbbnpbobhaaaDoor
