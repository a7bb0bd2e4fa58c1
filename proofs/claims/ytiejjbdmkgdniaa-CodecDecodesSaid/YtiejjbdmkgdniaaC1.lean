/- Check, walked. -/
import Derived.Test.YtiejjbdmkgdniaaR2
import Derived.Test.YtiejjbdmkgdniaaHfP
set_option linter.unusedVariables false
set_option linter.unusedSimpArgs false
namespace Go.Proofs.Ytiejjbdmkgdniaa
open Go.RowKit Go.Sal Go.Huf
def histV (ls : List Int) : Array Value := ((List.range 16).map fun n => Value.int .i64 (cnt ls n : Nat)).toArray
theorem histV_nil : histV [] = #[.int .i64 0, .int .i64 0, .int .i64 0, .int .i64 0, .int .i64 0, .int .i64 0, .int .i64 0, .int .i64 0, .int .i64 0, .int .i64 0, .int .i64 0, .int .i64 0, .int .i64 0, .int .i64 0, .int .i64 0, .int .i64 0] := by
  simp [histV, cnt, List.range, List.range.loop]
theorem histV_get (ls : List Int) {n : Nat} (h : n < 16) : (histV ls)[n]? = some (.int .i64 (cnt ls n : Nat)) := by
  simp [histV, h]
theorem histV_set (ls : List Int) {x : Nat} (h : x < 16) : (histV ls).setIfInBounds x (.int .i64 ((cnt ls x : Int) + 1)) = histV (ls ++ [(x : Int)]) := by
  apply Array.ext_getElem?
  intro i
  rw [Array.getElem?_setIfInBounds]
  by_cases hi : i < 16
  · rw [histV_get _ hi, histV_get _ hi, cnt_snoc]
    by_cases hx : x = i
    · subst hx
      rw [if_pos rfl, if_pos (by simpa [histV] using h), if_pos rfl]
      simp
    · rw [if_neg hx, if_neg (by omega)]
      simp
  · by_cases hx : x = i
    · omega
    · rw [if_neg hx]
      simp [histV, hi]
theorem p2_shift {k : Nat} (h : k < 15) : (2 : Int) ^ (14 - k) = (p2 (k + 1) : Int) := by
  unfold p2
  rw [show 15 - (k + 1) = 14 - k by omega]
  simp
theorem wrap_two {a b : Int} (h1 : 0 ≤ b ∧ b ≤ 16777216) (h2 : 0 ≤ a + b ∧ a + b ≤ 1000000000) : RowKit.wrap64 (a + RowKit.wrap64 b) = a + b := by
  have e1 : RowKit.wrap64 b = b := IntWalk.wrap64_in _ ⟨by omega, by omega⟩
  rw [e1]
  exact IntWalk.wrap64_in _ ⟨by omega, by omega⟩
theorem rm_step {ls : List Int} (hl : ls.length ≤ 512) {k : Nat} (h : k < 15) : RowKit.wrap64 (rm ls k + RowKit.wrap64 ((cnt ls (k + 1) : Int) * 2 ^ (14 - k))) = rm ls (k + 1) := by
  have hrk := rm_small hl (k + 1)
  rw [p2_shift h]
  refine wrap_two (rm_mul hl (k + 1)) ?_
  rw [rm] at hrk
  generalize rm ls k + (cnt ls (k + 1) : Int) * (p2 (k + 1) : Int) = z at *
  omega
/-- while the lengths are counted -/
def CA (w : World) (ls : List Int) (k : Nat) (wr : World) : Prop := Blk wr w.heap.size 132 (histV (ls.take k)) ∧ Keep [] w wr ∧ ∀ j (h : j < ls.length), j < k → 0 ≤ ls[j] ∧ ls[j] ≤ 15

set_option maxRecDepth 20000 in
set_option maxHeartbeats 4000000 in
theorem check_any (ls : List Int) (A : Option Addr) (c : Nat) (w : World) (hs : ISrc w A ls) (hn : ls.length ≤ 100000000) :
    Calls Try.prog 65 #[.slice A ls.length c] w fun e w' => e = .returned (.int .i64 (chkE ls)) ∧ Keep [] w w' := by
  have Hs := Lib.hid hs
  clear hs
  go_enter Try.func65, Try.ntmps65
  by_cases hl : 512 < ls.length
  · have hl2 : (512 : Int) < ls.length := by omega
    have hr : Hid (chkE ls = 51) := Lib.hid (by unfold chkE; rw [if_neg (fun h => by have := h.1; omega)])
    go_wp2
    go_ret
    exact ⟨by rw [hr.out]; rfl, Keep.refl _ _⟩
  · have hl2 : ¬ (512 : Int) < ls.length := by omega
    have H0 : Hid (CA w ls 0 (w.alloc (.cells #[.int .i64 0, .int .i64 0, .int .i64 0, .int .i64 0, .int .i64 0, .int .i64 0, .int .i64 0, .int .i64 0, .int .i64 0, .int .i64 0, .int .i64 0, .int .i64 0, .int .i64 0, .int .i64 0, .int .i64 0, .int .i64 0] 132 (0, 0)))) := by
      refine Lib.hid ⟨?_, (Keep.refl [] w).alloc _, fun j h hj => by omega⟩
      rw [List.take_zero, histV_nil]
      exact Blk.new w 132 _
    go_wp2
    go_loopw [14] (fun i wr => ∃ k : Nat, i = .int .i64 k ∧ k ≤ ls.length ∧ Hid (CA w ls k wr)) (fun i _ => ls.length - (intOf i).toNat)
    case atStart => exact ⟨0, rfl, by omega, H0⟩
    case round =>
      obtain ⟨k, rfl, hk, hI⟩ := hrel
      clear H0
      obtain ⟨hB, hkp, hall⟩ := hI.out
      rcases Nat.lt_or_ge k ls.length with hkl | hkl
      · as_aux_lemma =>
          obtain ⟨g, o, rfl, hg, hc⟩ := Hs.out k hkl
          have d0 := (hkp.cell (p := ⟨g, o + k, none⟩) hg (by simp)).trans hc
          have hwk : IntKind.i64.wrap ((k : Int) + 1) = (k : Int) + 1 := by rw [IntKind.wrap_i64]; omega
          have htk : ls.take (k + 1) = ls.take k ++ [ls[k]] := List.take_succ_eq_append_getElem hkl
          have hbad : Hid (¬ (0 ≤ ls[k] ∧ ls[k] ≤ 15) → chkE ls = 51) := Lib.hid (fun h => by unfold chkE; rw [if_neg (fun h2 => h (h2.2.1 _ (List.getElem_mem hkl)))])
          have hstep : Hid (0 ≤ ls[k] ∧ ls[k] ≤ 15 → ∀ j (h : j < ls.length), j < k + 1 → 0 ≤ ls[j] ∧ ls[j] ≤ 15) := Lib.hid (fun hb j h hj => by
            rcases Nat.lt_succ_iff_lt_or_eq.1 hj with h1 | rfl
            · exact hall j h h1
            · exact hb)
          have Hkp := Lib.hid hkp
          generalize ls[k] = x at *
          by_cases h1 : x < 0
          · clear hI hB hkp hall htk
            have hb2 := Lib.hid (hbad.out (by omega))
            go_wp2
            go_ret
            exact ⟨by rw [hb2.out]; rfl, Hkp.out⟩
          · by_cases h2 : 15 < x
            · clear hI hB hkp hall htk
              have hb2 := Lib.hid (hbad.out (by omega))
              go_wp2
              go_ret
              exact ⟨by rw [hb2.out]; rfl, Hkp.out⟩
            · obtain ⟨n, rfl⟩ : ∃ n : Nat, x = n := ⟨x.toNat, by omega⟩
              have hn16 : n < 16 := by omega
              have m1 : wr.cell? ⟨w.heap.size, n, none⟩ = some (.int .i64 (cnt (ls.take k) n : Nat)) := (hB.cell n).trans (histV_get _ hn16)
              have m2 : wr.frozen? ⟨w.heap.size, n, none⟩ = false := hB.free n
              have hset := hB.set_ n (.int .i64 ((cnt (ls.take k) n : Int) + 1))
              rw [histV_set _ hn16, ← htk] at hset
              have hcl : cnt (ls.take k) n ≤ 512 := by
                have := cnt_le (ls.take k) n
                rw [List.length_take] at this
                omega
              have HN : Hid (CA w ls (k + 1) (wr.setCell ⟨w.heap.size, n, none⟩ (.int .i64 ((cnt (ls.take k) n : Int) + 1)))) :=
                Lib.hid ⟨hset, hkp.setCell (.inr (Nat.le_refl _)) _, hstep.out (by omega)⟩
              clear hI hB hkp hall htk hset hstep hbad
              generalize cnt (ls.take k) n = q at *
              have hwq : IntKind.i64.wrap ((q : Int) + 1) = (q : Int) + 1 := by rw [IntKind.wrap_i64]; omega
              go_wp2
              exact ⟨⟨k + 1, by simp, by omega, HN⟩, by simp [intOf]; omega⟩
      · obtain rfl : k = ls.length := by omega
        rw [List.take_length] at hB
        have hgood : good ls := fun n hn => by
          obtain ⟨j, hj, rfl⟩ := List.mem_iff_getElem.1 hn
          exact hall j hj hj
        have hsc := some_cnt ls hgood
        have hrr := rm_room ls hgood
        have m0 : wr.cell? ⟨w.heap.size, 0, none⟩ = some (.int .i64 (cnt ls 0 : Nat)) := (hB.cell 0).trans (histV_get _ (by omega))
        have m1 : wr.cell? ⟨w.heap.size, 1, none⟩ = some (.int .i64 (cnt ls 1 : Nat)) := (hB.cell 1).trans (histV_get _ (by omega))
        have HB := Lib.hid hB
        have Hkp := Lib.hid hkp
        have hc0 := cnt_le ls 0
        have hc1 := cnt_le ls 1
        have hse : IntKind.i64.wrap ((ls.length : Int) - (cnt ls 0 : Nat)) = (some_ ls : Nat) := by rw [IntKind.wrap_i64]; omega
        have hsl := some_le ls
        have hrng := room_range ls
        have Hok := Lib.hid (chkE_ok (ls := ls) (by omega) hgood)
        have Hno := Lib.hid (chkE_no (ls := ls))
        have Hrr := Lib.hid hrr
        clear hI hB hkp hall hgood hrr hsc hrng
        go_wp2_with fail
        go_quiet (fail)
        go_wp2_with fail
        obtain ⟨wq, hwq⟩ : ∃ wq, wq = wr.drewN nq := ⟨_, rfl⟩
        rw [← hwq]
        have HBq : Hid (Blk wq w.heap.size 132 (histV ls)) := by rw [hwq]; exact HB
        have Hkq : Hid (Keep [] w wq) := by rw [hwq]; exact Lib.hid (Hkp.out.drewN _)
        have mq1 : wq.cell? ⟨w.heap.size, 1, none⟩ = some (.int .i64 (cnt ls 1 : Nat)) := (HBq.out.cell 1).trans (histV_get _ (by omega))
        clear hwq HB Hkp m0 m1
        go_loop [6, 8] (fun r n => ∃ k : Nat, n = .int .i64 ((k : Int) + 1) ∧ k ≤ 15 ∧ r = .int .i64 (rm ls k)) (fun _ n => 16 - (intOf n).toNat)
        case atStart => exact ⟨0, rfl, by omega, rfl⟩
        case round =>
          obtain ⟨k, rfl, hk, rfl⟩ := hrel
          rcases Nat.lt_or_ge k 15 with hk15 | hk15
          · as_aux_lemma =>
              have mk : wq.cell? ⟨w.heap.size, k + 1, none⟩ = some (.int .i64 (cnt ls (k + 1) : Nat)) := (HBq.out.cell (k + 1)).trans (histV_get _ (by omega))
              have hk2 : (k : Int) + 1 ≤ 15 := by omega
              have hrm : rm ls (k + 1) = rm ls k + (cnt ls (k + 1) : Int) * (p2 (k + 1) : Int) := rfl
              have HR := Lib.hid (rm_step (ls := ls) (by omega) hk15)
              clear hrm hsl hse hc0 hc1
              go_wp2_with fail
              refine ⟨⟨k + 1, by simp, by omega, by rw [HR.out]⟩, by simp [intOf]; omega⟩
          · obtain rfl : k = 15 := by omega
            rw [Hrr.out]
            have hk2 : ¬ ((15 : Nat) : Int) + 1 ≤ 15 := by omega
            clear hse hc0 hc1 Hs hsl
            generalize room ls = R at *
            generalize some_ ls = S at *
            generalize cnt ls 1 = O at *
            by_cases h0 : S = 0
            · have hr := Lib.hid (Hok.out (.inl h0))
              subst h0
              go_wp2
              go_ret
              exact ⟨by rw [hr.out]; rfl, Hkq.out⟩
            · have d1 : ((S : Int) == 0) = false := by simpa using h0
              by_cases hR : R = 32768
              · have hr := Lib.hid (Hok.out (.inr (.inr hR)))
                subst hR
                by_cases h1 : S = 1
                · subst h1
                  by_cases h2 : O = 1
                  · subst h2
                    go_wp2
                    go_ret
                    exact ⟨by rw [hr.out]; rfl, Hkq.out⟩
                  · have d3 : ((O : Int) == 1) = false := by simpa using (by omega : (O : Int) ≠ 1)
                    go_wp2
                    go_ret
                    exact ⟨by rw [hr.out]; rfl, Hkq.out⟩
                · have d2 : ((S : Int) == 1) = false := by simpa using (by omega : (S : Int) ≠ 1)
                  go_wp2
                  go_ret
                  exact ⟨by rw [hr.out]; rfl, Hkq.out⟩
              · have d4 : (R == 32768) = false := by simpa using hR
                by_cases h1 : S = 1
                · by_cases h2 : O = 1
                  · have hr := Lib.hid (Hok.out (.inr (.inl ⟨h1, h2⟩)))
                    subst h1
                    subst h2
                    go_wp2
                    go_ret
                    exact ⟨by rw [hr.out]; rfl, Hkq.out⟩
                  · have hr := Lib.hid (Hno.out (by omega))
                    have d3 : ((O : Int) == 1) = false := by simpa using (by omega : (O : Int) ≠ 1)
                    subst h1
                    go_wp2
                    go_ret
                    exact ⟨by rw [hr.out]; rfl, Hkq.out⟩
                · have hr := Lib.hid (Hno.out (by omega))
                  have d2 : ((S : Int) == 1) = false := by simpa using (by omega : (S : Int) ≠ 1)
                  go_wp2
                  go_ret
                  exact ⟨by rw [hr.out]; rfl, Hkq.out⟩
end Go.Proofs.Ytiejjbdmkgdniaa
set_option linter.unusedVariables false
set_option linter.unusedSimpArgs false
namespace Go.Huf
theorem take_snoc {ls : List Int} {k : Nat} (h : k < ls.length) : ls.take (k + 1) = ls.take k ++ [ls[k]] := List.take_succ_eq_append_getElem h
end Go.Huf
namespace Go.Proofs.Ytiejjbdmkgdniaa
open Go.RowKit Go.Sal Go.Huf

set_option maxRecDepth 20000 in
set_option maxHeartbeats 8000000 in
theorem rcheck_any (ls : List Int) (A : Option Addr) (c : Nat) (w : World) (hs : ISrc w A ls) (hn : ls.length ≤ 9223372036854775807) :
    Calls Try.prog 72 #[.slice A ls.length c] w fun e w' => e = .returned (.int .i64 (chkE ls)) ∧ w = w' := by
  have Hs := Lib.hid hs
  clear hs
  go_enter Try.func72, Try.ntmps72
  by_cases hl : 512 < ls.length
  · have hl2 : (512 : Int) < ls.length := by omega
    have hr : Hid (chkE ls = 51) := Lib.hid (by unfold chkE; rw [if_neg (fun h => by have := h.1; omega)])
    go_wp2
    go_ret
    exact ⟨by rw [hr.out]; rfl, rfl⟩
  · have hl2 : ¬ (512 : Int) < ls.length := by omega
    go_wp2
    go_loop [3, 4, 5, 6] (fun r s o i => ∃ (k : Nat) (R : Int) (S O : Nat), i = .int .i64 k ∧ k ≤ ls.length ∧ r = .int .i64 R ∧ s = .int .i64 S ∧ o = .int .i64 O ∧
      Hid ((R = room (ls.take k) ∧ S = some_ (ls.take k) ∧ O = cnt (ls.take k) 1) ∧ ∀ j (h : j < ls.length), j < k → 0 ≤ ls[j] ∧ ls[j] ≤ 15)) (fun _ _ _ i => ls.length - (intOf i).toNat)
    case atStart => exact ⟨0, 0, 0, 0, rfl, by omega, rfl, rfl, rfl, Lib.hid ⟨⟨by simp [room], by simp [some_], by simp [cnt]⟩, fun j h hj => by omega⟩⟩
    case round =>
      obtain ⟨k, R, S, O, rfl, hk, rfl, rfl, rfl, hI⟩ := hrel
      rcases Nat.lt_or_ge k ls.length with hkl | hkl
      · as_aux_lemma =>
          obtain ⟨g, o, rfl, hg, hc⟩ := Hs.out k hkl
          have hwk : IntKind.i64.wrap ((k : Int) + 1) = (k : Int) + 1 := by rw [IntKind.wrap_i64]; omega
          have hbad : Hid (¬ (0 ≤ ls[k] ∧ ls[k] ≤ 15) → chkE ls = 51) := Lib.hid (fun h => by unfold chkE; rw [if_neg (fun h2 => h (h2.2.1 _ (List.getElem_mem hkl)))])
          obtain ⟨⟨hR, hS, hO⟩, hall⟩ := hI.out
          have hstep : Hid (0 ≤ ls[k] ∧ ls[k] ≤ 15 → (R + pw ls[k] = room (ls.take (k + 1)) ∧ S + (if 0 < ls[k] then 1 else 0) = some_ (ls.take (k + 1)) ∧ O + (if ls[k] = 1 then 1 else 0) = cnt (ls.take (k + 1)) 1) ∧ ∀ j (h : j < ls.length), j < k + 1 → 0 ≤ ls[j] ∧ ls[j] ≤ 15) := Lib.hid (fun hb => by
            refine ⟨⟨?_, ?_, ?_⟩, fun j h hj => ?_⟩
            · rw [take_snoc hkl, room_snoc, hR]
            · rw [take_snoc hkl, some_snoc, hS]
            · rw [take_snoc hkl, cnt_snoc, hO]; rfl
            · rcases Nat.lt_succ_iff_lt_or_eq.1 hj with h1 | rfl
              · exact hall j h h1
              · exact hb)
          have hRr := room_range (ls.take k)
          rw [← hR, List.length_take] at hRr
          have hSr := some_le (ls.take k)
          rw [← hS, List.length_take] at hSr
          have hOr := cnt_le (ls.take k) 1
          rw [← hO, List.length_take] at hOr
          generalize ls[k] = x at *
          clear hI hR hS hO hall
          by_cases h1 : x < 0
          · have hb2 := Lib.hid (hbad.out (by omega))
            clear hbad hstep
            go_wp2
            go_ret
            exact ⟨by rw [hb2.out]; rfl, rfl⟩
          · by_cases h2 : 15 < x
            · have hb2 := Lib.hid (hbad.out (by omega))
              clear hbad hstep
              go_wp2
              go_ret
              exact ⟨by rw [hb2.out]; rfl, rfl⟩
            · have HN := Lib.hid (hstep.out (by omega))
              clear hbad hstep
              obtain ⟨n, rfl⟩ : ∃ n : Nat, x = n := ⟨x.toNat, by omega⟩
              by_cases h3 : 0 < (n : Int)
              · have hpw : pw (n : Int) = (p2 n : Int) := by unfold pw; rw [if_pos h3]; simp
                rw [hpw, if_pos h3] at HN
                have hp2 := p2_le n
                have hn15 : n ≤ 15 := by omega
                have Hp2 := Lib.hid (show p2 n = 2 ^ (15 - n) from rfl)
                clear hpw
                go_wp2
                go_loop [8, 9] (fun v c => ∃ t : Nat, c = .int .i64 ((n + t : Nat) : Int) ∧ n + t ≤ 15 ∧ v = .int .i64 ((2 ^ t : Nat) : Int)) (fun _ c => 15 - (intOf c).toNat)
                case atStart => exact ⟨0, rfl, by omega, rfl⟩
                case round =>
                  obtain ⟨t, rfl, ht, rfl⟩ := hrel
                  obtain ⟨q, hq⟩ : ∃ q, q = n + t := ⟨_, rfl⟩
                  rw [← hq]
                  have hpt : 2 ^ t ≤ 2 ^ 15 := Nat.pow_le_pow_right (by omega) (by omega)
                  have hps : 2 ^ (t + 1) = 2 ^ t * 2 := Nat.pow_succ _ _
                  rcases Nat.lt_or_ge q 15 with h15 | h15
                  · have h15i : (q : Int) < 15 := by omega
                    have hwq : IntKind.i64.wrap ((q : Int) + 1) = (q : Int) + 1 := by rw [IntKind.wrap_i64]; omega
                    have Hps := Lib.hid hps
                    have Hq := Lib.hid hq
                    generalize 2 ^ t = P at *
                    have hwP : IntKind.i64.wrap ((P : Int) * 2) = ((P * 2 : Nat) : Int) := by rw [IntKind.wrap_i64]; omega
                    clear hps hq
                    go_wp2
                    have hq := Hq.out
                    refine ⟨⟨t + 1, by congr 1; omega, by omega, by rw [Hps.out]; simp⟩, by simp [intOf]; omega⟩
                  · have h15i : ¬ (q : Int) < 15 := by omega
                    have hpe : (2 : Nat) ^ t = p2 n := by rw [Hp2.out]; congr 1; omega
                    rw [hpe]
                    generalize p2 n = P at *
                    have hwR : IntKind.i64.wrap (R + (P : Int)) = R + (P : Int) := by rw [IntKind.wrap_i64]; omega
                    have hwS : IntKind.i64.wrap ((S : Int) + 1) = ((S + 1 : Nat) : Int) := by rw [IntKind.wrap_i64]; omega
                    clear hps hpe hpt hq
                    by_cases h4 : n = 1
                    · have hwO : IntKind.i64.wrap ((O : Int) + 1) = ((O + 1 : Nat) : Int) := by rw [IntKind.wrap_i64]; omega
                      rw [if_pos (by omega)] at HN
                      subst h4
                      go_wp2_with fail
                      go_round
                      case rel => exact ⟨k + 1, R + P, S + 1, O + 1, by simp, by omega, rfl, by simp, by simp, HN⟩
                      case measure => simp [intOf]; omega
                    · have h4i : ((n : Int) == 1) = false := by simpa using (by omega : (n : Int) ≠ 1)
                      rw [if_neg (by omega)] at HN
                      go_wp2_with fail
                      go_round
                      case rel => exact ⟨k + 1, R + P, S + 1, O, by simp, by omega, rfl, by simp, rfl, by simpa using HN⟩
                      case measure => simp [intOf]; omega
              · have hpw : pw (n : Int) = 0 := by unfold pw; rw [if_neg h3]
                rw [hpw, if_neg h3, if_neg (by omega)] at HN
                obtain rfl : n = 0 := by omega
                go_wp2
                exact ⟨⟨k + 1, R, S, O, by simp, by omega, rfl, rfl, rfl, by simpa using HN⟩, by simp [intOf]; omega⟩
      · obtain rfl : k = ls.length := by omega
        obtain ⟨hR, hS, hO⟩ := hI.out.1
        rw [List.take_length] at hR hS hO
        have hgood : good ls := fun n hn => by
          obtain ⟨j, hj, rfl⟩ := List.mem_iff_getElem.1 hn
          exact hI.out.2 j hj hj
        have Hok := Lib.hid (chkE_ok (ls := ls) (by omega) hgood)
        have Hno := Lib.hid (chkE_no (ls := ls))
        rw [← hR, ← hS, ← hO] at Hok Hno
        clear hI hR hS hO hgood
        by_cases h0 : S = 0
        · have hr := Lib.hid (Hok.out (.inl h0))
          subst h0
          go_wp2
          go_ret
          exact ⟨by rw [hr.out]; rfl, rfl⟩
        · have d1 : ((S : Int) == 0) = false := by simpa using h0
          by_cases hR : R = 32768
          · have hr := Lib.hid (Hok.out (.inr (.inr hR)))
            subst hR
            by_cases h1 : S = 1
            · subst h1
              by_cases h2 : O = 1
              · subst h2
                go_wp2
                go_ret
                exact ⟨by rw [hr.out]; rfl, rfl⟩
              · have d3 : ((O : Int) == 1) = false := by simpa using (by omega : (O : Int) ≠ 1)
                go_wp2
                go_ret
                exact ⟨by rw [hr.out]; rfl, rfl⟩
            · have d2 : ((S : Int) == 1) = false := by simpa using (by omega : (S : Int) ≠ 1)
              go_wp2
              go_ret
              exact ⟨by rw [hr.out]; rfl, rfl⟩
          · have d4 : (R == 32768) = false := by simpa using hR
            by_cases h1 : S = 1
            · by_cases h2 : O = 1
              · have hr := Lib.hid (Hok.out (.inr (.inl ⟨h1, h2⟩)))
                subst h1
                subst h2
                go_wp2
                go_ret
                exact ⟨by rw [hr.out]; rfl, rfl⟩
              · have hr := Lib.hid (Hno.out (by omega))
                have d3 : ((O : Int) == 1) = false := by simpa using (by omega : (O : Int) ≠ 1)
                subst h1
                go_wp2
                go_ret
                exact ⟨by rw [hr.out]; rfl, rfl⟩
            · have hr := Lib.hid (Hno.out (by omega))
              have d2 : ((S : Int) == 1) = false := by simpa using (by omega : (S : Int) ≠ 1)
              go_wp2
              go_ret
              exact ⟨by rw [hr.out]; rfl, rfl⟩
end Go.Proofs.Ytiejjbdmkgdniaa
