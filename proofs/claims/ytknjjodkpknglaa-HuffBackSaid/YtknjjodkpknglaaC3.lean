/- The reference's Check, walked. -/
import Derived.Test.YtknjjodkpknglaaC1
set_option linter.unusedVariables false
set_option linter.unusedSimpArgs false
namespace Go.Huf
theorem take_snoc {ls : List Int} {k : Nat} (h : k < ls.length) : ls.take (k + 1) = ls.take k ++ [ls[k]] := List.take_succ_eq_append_getElem h
end Go.Huf
namespace Go.Proofs.Ytknjjodkpknglaa
open Go.RowKit Go.Sal Go.Huf

set_option maxRecDepth 20000 in
set_option maxHeartbeats 8000000 in
theorem rcheck_any (ls : List Int) (A : Option Addr) (c : Nat) (w : World) (hs : ISrc w A ls) (hn : ls.length ≤ 9223372036854775807) :
    Calls Try.prog 20 #[.slice A ls.length c] w fun e w' => e = .returned (.int .i64 (chkE ls)) ∧ w = w' := by
  have Hs := Lib.hid hs
  clear hs
  go_enter Try.func20, Try.ntmps20
  by_cases hl : 512 < ls.length
  · have hl2 : (512 : Int) < ls.length := by omega
    have hr : Hid (chkE ls = 51) := Lib.hid (by unfold chkE; rw [if_neg (fun h => by have := h.1; omega)])
    go_wp2
    go_ret
    exact ⟨by rw [hr.out]; rfl, rfl⟩
  · have hl2 : ¬ (512 : Int) < ls.length := by omega
    go_wp2
    go_loop [3, 4, 5, 6] (fun r s o i => ∃ (k : Nat) (R : Int) (S O : Nat), i = .int .i64 k ∧ k ≤ ls.length ∧ r = .int .i64 R ∧ s = .int .i64 S ∧ o = .int .i64 O ∧
      Hid ((R = room (ls.take k) ∧ S = some_ (ls.take k) ∧ O = cnt (ls.take k) 1) ∧ ∀ j (h : j < ls.length), j < k → 0 ≤ ls[j] ∧ ls[j] ≤ 15)) (fun _ _ _ i => ls.length - (intOf i).toNat)
    case atStart => exact ⟨0, 0, 0, 0, rfl, by omega, rfl, rfl, rfl, Lib.hid ⟨⟨by simp [room], by simp [some_], by simp [cnt]⟩, fun j h hj => by omega⟩⟩
    case round =>
      obtain ⟨k, R, S, O, rfl, hk, rfl, rfl, rfl, hI⟩ := hrel
      rcases Nat.lt_or_ge k ls.length with hkl | hkl
      · as_aux_lemma =>
          obtain ⟨g, o, rfl, hg, hc⟩ := Hs.out k hkl
          have hwk : IntKind.i64.wrap ((k : Int) + 1) = (k : Int) + 1 := by rw [IntKind.wrap_i64]; omega
          have hbad : Hid (¬ (0 ≤ ls[k] ∧ ls[k] ≤ 15) → chkE ls = 51) := Lib.hid (fun h => by unfold chkE; rw [if_neg (fun h2 => h (h2.2.1 _ (List.getElem_mem hkl)))])
          obtain ⟨⟨hR, hS, hO⟩, hall⟩ := hI.out
          have hstep : Hid (0 ≤ ls[k] ∧ ls[k] ≤ 15 → (R + pw ls[k] = room (ls.take (k + 1)) ∧ S + (if 0 < ls[k] then 1 else 0) = some_ (ls.take (k + 1)) ∧ O + (if ls[k] = 1 then 1 else 0) = cnt (ls.take (k + 1)) 1) ∧ ∀ j (h : j < ls.length), j < k + 1 → 0 ≤ ls[j] ∧ ls[j] ≤ 15) := Lib.hid (fun hb => by
            refine ⟨⟨?_, ?_, ?_⟩, fun j h hj => ?_⟩
            · rw [take_snoc hkl, room_snoc, hR]
            · rw [take_snoc hkl, some_snoc, hS]
            · rw [take_snoc hkl, cnt_snoc, hO]; rfl
            · rcases Nat.lt_succ_iff_lt_or_eq.1 hj with h1 | rfl
              · exact hall j h h1
              · exact hb)
          have hRr := room_range (ls.take k)
          rw [← hR, List.length_take] at hRr
          have hSr := some_le (ls.take k)
          rw [← hS, List.length_take] at hSr
          have hOr := cnt_le (ls.take k) 1
          rw [← hO, List.length_take] at hOr
          generalize ls[k] = x at *
          clear hI hR hS hO hall
          by_cases h1 : x < 0
          · have hb2 := Lib.hid (hbad.out (by omega))
            clear hbad hstep
            go_wp2
            go_ret
            exact ⟨by rw [hb2.out]; rfl, rfl⟩
          · by_cases h2 : 15 < x
            · have hb2 := Lib.hid (hbad.out (by omega))
              clear hbad hstep
              go_wp2
              go_ret
              exact ⟨by rw [hb2.out]; rfl, rfl⟩
            · have HN := Lib.hid (hstep.out (by omega))
              clear hbad hstep
              obtain ⟨n, rfl⟩ : ∃ n : Nat, x = n := ⟨x.toNat, by omega⟩
              by_cases h3 : 0 < (n : Int)
              · have hpw : pw (n : Int) = (p2 n : Int) := by unfold pw; rw [if_pos h3]; simp
                rw [hpw, if_pos h3] at HN
                have hp2 := p2_le n
                have hn15 : n ≤ 15 := by omega
                have Hp2 := Lib.hid (show p2 n = 2 ^ (15 - n) from rfl)
                clear hpw
                go_wp2
                go_loop [8, 9] (fun v c => ∃ t : Nat, c = .int .i64 ((n + t : Nat) : Int) ∧ n + t ≤ 15 ∧ v = .int .i64 ((2 ^ t : Nat) : Int)) (fun _ c => 15 - (intOf c).toNat)
                case atStart => exact ⟨0, rfl, by omega, rfl⟩
                case round =>
                  obtain ⟨t, rfl, ht, rfl⟩ := hrel
                  obtain ⟨q, hq⟩ : ∃ q, q = n + t := ⟨_, rfl⟩
                  rw [← hq]
                  have hpt : 2 ^ t ≤ 2 ^ 15 := Nat.pow_le_pow_right (by omega) (by omega)
                  have hps : 2 ^ (t + 1) = 2 ^ t * 2 := Nat.pow_succ _ _
                  rcases Nat.lt_or_ge q 15 with h15 | h15
                  · have h15i : (q : Int) < 15 := by omega
                    have hwq : IntKind.i64.wrap ((q : Int) + 1) = (q : Int) + 1 := by rw [IntKind.wrap_i64]; omega
                    have Hps := Lib.hid hps
                    have Hq := Lib.hid hq
                    generalize 2 ^ t = P at *
                    have hwP : IntKind.i64.wrap ((P : Int) * 2) = ((P * 2 : Nat) : Int) := by rw [IntKind.wrap_i64]; omega
                    clear hps hq
                    go_wp2
                    have hq := Hq.out
                    refine ⟨⟨t + 1, by congr 1; omega, by omega, by rw [Hps.out]; simp⟩, by simp [intOf]; omega⟩
                  · have h15i : ¬ (q : Int) < 15 := by omega
                    have hpe : (2 : Nat) ^ t = p2 n := by rw [Hp2.out]; congr 1; omega
                    rw [hpe]
                    generalize p2 n = P at *
                    have hwR : IntKind.i64.wrap (R + (P : Int)) = R + (P : Int) := by rw [IntKind.wrap_i64]; omega
                    have hwS : IntKind.i64.wrap ((S : Int) + 1) = ((S + 1 : Nat) : Int) := by rw [IntKind.wrap_i64]; omega
                    clear hps hpe hpt hq
                    by_cases h4 : n = 1
                    · have hwO : IntKind.i64.wrap ((O : Int) + 1) = ((O + 1 : Nat) : Int) := by rw [IntKind.wrap_i64]; omega
                      rw [if_pos (by omega)] at HN
                      subst h4
                      go_wp2_with fail
                      go_round
                      case rel => exact ⟨k + 1, R + P, S + 1, O + 1, by simp, by omega, rfl, by simp, by simp, HN⟩
                      case measure => simp [intOf]; omega
                    · have h4i : ((n : Int) == 1) = false := by simpa using (by omega : (n : Int) ≠ 1)
                      rw [if_neg (by omega)] at HN
                      go_wp2_with fail
                      go_round
                      case rel => exact ⟨k + 1, R + P, S + 1, O, by simp, by omega, rfl, by simp, rfl, by simpa using HN⟩
                      case measure => simp [intOf]; omega
              · have hpw : pw (n : Int) = 0 := by unfold pw; rw [if_neg h3]
                rw [hpw, if_neg h3, if_neg (by omega)] at HN
                obtain rfl : n = 0 := by omega
                go_wp2
                exact ⟨⟨k + 1, R, S, O, by simp, by omega, rfl, rfl, rfl, by simpa using HN⟩, by simp [intOf]; omega⟩
      · obtain rfl : k = ls.length := by omega
        obtain ⟨hR, hS, hO⟩ := hI.out.1
        rw [List.take_length] at hR hS hO
        have hgood : good ls := fun n hn => by
          obtain ⟨j, hj, rfl⟩ := List.mem_iff_getElem.1 hn
          exact hI.out.2 j hj hj
        have Hok := Lib.hid (chkE_ok (ls := ls) (by omega) hgood)
        have Hno := Lib.hid (chkE_no (ls := ls))
        rw [← hR, ← hS, ← hO] at Hok Hno
        clear hI hR hS hO hgood
        by_cases h0 : S = 0
        · have hr := Lib.hid (Hok.out (.inl h0))
          subst h0
          go_wp2
          go_ret
          exact ⟨by rw [hr.out]; rfl, rfl⟩
        · have d1 : ((S : Int) == 0) = false := by simpa using h0
          by_cases hR : R = 32768
          · have hr := Lib.hid (Hok.out (.inr (.inr hR)))
            subst hR
            by_cases h1 : S = 1
            · subst h1
              by_cases h2 : O = 1
              · subst h2
                go_wp2
                go_ret
                exact ⟨by rw [hr.out]; rfl, rfl⟩
              · have d3 : ((O : Int) == 1) = false := by simpa using (by omega : (O : Int) ≠ 1)
                go_wp2
                go_ret
                exact ⟨by rw [hr.out]; rfl, rfl⟩
            · have d2 : ((S : Int) == 1) = false := by simpa using (by omega : (S : Int) ≠ 1)
              go_wp2
              go_ret
              exact ⟨by rw [hr.out]; rfl, rfl⟩
          · have d4 : (R == 32768) = false := by simpa using hR
            by_cases h1 : S = 1
            · by_cases h2 : O = 1
              · have hr := Lib.hid (Hok.out (.inr (.inl ⟨h1, h2⟩)))
                subst h1
                subst h2
                go_wp2
                go_ret
                exact ⟨by rw [hr.out]; rfl, rfl⟩
              · have hr := Lib.hid (Hno.out (by omega))
                have d3 : ((O : Int) == 1) = false := by simpa using (by omega : (O : Int) ≠ 1)
                subst h1
                go_wp2
                go_ret
                exact ⟨by rw [hr.out]; rfl, rfl⟩
            · have hr := Lib.hid (Hno.out (by omega))
              have d2 : ((S : Int) == 1) = false := by simpa using (by omega : (S : Int) ≠ 1)
              go_wp2
              go_ret
              exact ⟨by rw [hr.out]; rfl, rfl⟩
end Go.Proofs.Ytknjjodkpknglaa
