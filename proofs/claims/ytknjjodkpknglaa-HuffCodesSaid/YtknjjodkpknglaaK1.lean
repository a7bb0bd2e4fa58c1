/- Cost and the reference's, walked. -/
import Derived.Test.YtknjjodkpknglaaHfJ
import Derived.Test.YtknjjodkpknglaaC3
import Derived.Test.YtknjjodkpknglaaR1
set_option linter.unusedVariables false
set_option linter.unusedSimpArgs false
namespace Go.Huf
def costSum (cs ls : List Int) (k : Nat) : Int := Sm (fun j => cs.getD j 0 * ls.getD j 0) (List.range k)
theorem costSum_succ (cs ls : List Int) (k : Nat) : costSum cs ls (k + 1) = costSum cs ls k + cs.getD k 0 * ls.getD k 0 := range_succ_sm _ _
theorem costSum_range {cs ls : List Int} (hc : ∀ n ∈ cs, 0 ≤ n ∧ n ≤ 1073741824) (hg : good ls) : ∀ k, 0 ≤ costSum cs ls k ∧ costSum cs ls k ≤ 16106127360 * k
  | 0 => by simp [costSum, Sm]
  | k + 1 => by
    have ih := costSum_range hc hg k
    rw [costSum_succ]
    have h1 : 0 ≤ cs.getD k 0 ∧ cs.getD k 0 ≤ 1073741824 := by
      rcases Nat.lt_or_ge k cs.length with hk | hk
      · rw [show cs.getD k 0 = cs[k] by simp [List.getD, hk]]; exact hc _ (List.getElem_mem hk)
      · simp [List.getD, hk]
    have h2 : 0 ≤ ls.getD k 0 ∧ ls.getD k 0 ≤ 15 := ln_good hg k
    have h3 := Int.mul_nonneg h1.1 h2.1
    have h4 := Int.mul_le_mul h1.2 h2.2 h2.1 (show (0 : Int) ≤ 1073741824 by omega)
    omega
theorem cost_mul {x y : Int} (h1 : 0 ≤ x ∧ x ≤ 1073741824) (h2 : 0 ≤ y ∧ y ≤ 15) : 0 ≤ x * y ∧ x * y ≤ 16106127360 := by
  have h3 := Int.mul_nonneg h1.1 h2.1
  have h4 := Int.mul_le_mul h1.2 h2.2 h2.1 (show (0 : Int) ≤ 1073741824 by omega)
  omega
end Go.Huf
namespace Go.Proofs.Ytknjjodkpknglaa
open Go.RowKit Go.Sal Go.Huf
/-- a call's answer: two numbers -/
def CostE (V E : Int) (e : Ending) : Prop := e = .returned (.tuple #[.int .i64 V, .int .i64 E])
theorem cost_bad (ls : List Int) (A : Option Addr) (c : Nat) (V : Value) (w : World) (hs : ISrc w A ls) (hn : ls.length ≤ 100000000) (h : ¬ okL ls) :
    Calls Try.prog 24 #[.slice A ls.length c, V] w fun e w' => CostE 0 51 e ∧ Keep [] w w' := by
  have hc := check_any ls A c w hs hn
  have he : chkE ls = 51 := by unfold chkE; rw [if_neg h]
  rw [he] at hc
  have Hc := Lib.hid hc
  clear hs h hc he
  go_enter Try.func24, Try.ntmps24
  go_wp2_with (go_at_call 19; refine Hc.out.mono ?_; rintro e w' ⟨rfl, hk⟩; have Hk := Lib.hid hk; clear hk)
  go_ret2
  exact ⟨rfl, Hk.out⟩
theorem rcost_bad (ls : List Int) (A : Option Addr) (c : Nat) (V : Value) (w : World) (hs : ISrc w A ls) (hn : ls.length ≤ 9223372036854775807) (h : ¬ okL ls) :
    Calls Try.prog 25 #[.slice A ls.length c, V] w fun e w' => CostE 0 51 e ∧ w = w' := by
  have hc := rcheck_any ls A c w hs hn
  have he : chkE ls = 51 := by unfold chkE; rw [if_neg h]
  rw [he] at hc
  have Hc := Lib.hid hc
  clear hs h hc he
  go_enter Try.func25, Try.ntmps25
  go_wp2_with (go_at_call 20; refine Hc.out.mono ?_; rintro e w' ⟨rfl, rfl⟩)
  go_ret2
  exact ⟨rfl, rfl⟩
theorem cost_cnt (ls cs : List Int) (A B : Option Addr) (c d : Nat) (w : World) (hs : ISrc w A ls) (ht : ISrc w B cs) (hn : cs.length ≤ 100000000) (h : okL ls) (h2 : ¬ (okC cs ∧ cs.length = ls.length)) :
    Calls Try.prog 24 #[.slice A ls.length c, .slice B cs.length d] w fun e w' => CostE 0 50 e ∧ Keep [] w w' := by
  have hl := h.1
  have hc := check_any ls A c w hs (by omega)
  have he : chkE ls = 0 := by unfold chkE; rw [if_pos h]
  rw [he] at hc
  have Hc := Lib.hid hc
  have Ht := Lib.hid ht
  by_cases hoc : okC cs
  · have Hcn : Hid (∀ w', Keep [] w w' → Calls Try.prog 31 #[.slice B cs.length d] w' fun e w'' => e = .returned (.int .i64 0) ∧ w' = w'') := Lib.hid (fun w' hk => count_ok cs B d w' (ht.keep hk (by simp)) hoc)
    have hlne : ((cs.length : Int) != ls.length) = true := by simpa using (by intro e; exact h2 ⟨hoc, by omega⟩ : (cs.length : Int) ≠ ls.length)
    clear hs ht h hc he hoc h2
    go_enter Try.func24, Try.ntmps24
    go_wp2_with (first
      | (go_at_call 19; refine Hc.out.mono ?_; rintro e w' ⟨rfl, hk⟩; have Hk := Lib.hid hk; clear hk)
      | (go_at_call 31; refine (Hcn.out _ Hk.out).mono ?_; rintro e w' ⟨rfl, rfl⟩))
    go_ret2
    exact ⟨rfl, Hk.out⟩
  · have Hcn : Hid (∀ w', Keep [] w w' → Calls Try.prog 31 #[.slice B cs.length d] w' fun e w'' => e = .returned (.int .i64 50) ∧ w' = w'') := Lib.hid (fun w' hk => count_bad cs B d w' (ht.keep hk (by simp)) hn hoc)
    clear hs ht h hc he hoc h2
    go_enter Try.func24, Try.ntmps24
    go_wp2_with (first
      | (go_at_call 19; refine Hc.out.mono ?_; rintro e w' ⟨rfl, hk⟩; have Hk := Lib.hid hk; clear hk)
      | (go_at_call 31; refine (Hcn.out _ Hk.out).mono ?_; rintro e w' ⟨rfl, rfl⟩))
    go_ret2
    exact ⟨rfl, Hk.out⟩
theorem rcost_cnt (ls cs : List Int) (A B : Option Addr) (c d : Nat) (w : World) (hs : ISrc w A ls) (ht : ISrc w B cs) (hn : cs.length ≤ 100000000) (h : okL ls) (h2 : ¬ (okC cs ∧ cs.length = ls.length)) :
    Calls Try.prog 25 #[.slice A ls.length c, .slice B cs.length d] w fun e w' => CostE 0 50 e ∧ w = w' := by
  have hl := h.1
  have hc := rcheck_any ls A c w hs (by omega)
  have he : chkE ls = 0 := by unfold chkE; rw [if_pos h]
  rw [he] at hc
  have Hc := Lib.hid hc
  by_cases hoc : okC cs
  · have Hcn : Hid (Calls Try.prog 26 #[.slice B cs.length d] w fun e w'' => e = .returned (.bool true) ∧ w = w'') := Lib.hid ((rcounted_any cs B d w ht hn).mono (by
      rintro e w' ⟨b, h1, h2, h3⟩
      cases b with
      | true => exact ⟨h1, h3⟩
      | false => exact absurd (h2.2 hoc) (by simp)))
    have hlne : ((cs.length : Int) != ls.length) = true := by simpa using (by intro e; exact h2 ⟨hoc, by omega⟩ : (cs.length : Int) ≠ ls.length)
    clear hs ht h hc he hoc h2
    go_enter Try.func25, Try.ntmps25
    go_wp2_with (first
      | (go_at_call 20; refine Hc.out.mono ?_; rintro e w' ⟨rfl, rfl⟩)
      | (go_at_call 26; refine Hcn.out.mono ?_; rintro e w' ⟨rfl, rfl⟩))
    go_ret2
    exact ⟨rfl, rfl⟩
  · have Hcn : Hid (Calls Try.prog 26 #[.slice B cs.length d] w fun e w'' => e = .returned (.bool false) ∧ w = w'') := Lib.hid ((rcounted_any cs B d w ht hn).mono (by
      rintro e w' ⟨b, h1, h2, h3⟩
      cases b with
      | false => exact ⟨h1, h3⟩
      | true => exact absurd (h2.1 rfl) hoc))
    clear hs ht h hc he hoc h2
    go_enter Try.func25, Try.ntmps25
    go_wp2_with (first
      | (go_at_call 20; refine Hc.out.mono ?_; rintro e w' ⟨rfl, rfl⟩)
      | (go_at_call 26; refine Hcn.out.mono ?_; rintro e w' ⟨rfl, rfl⟩))
    go_ret2
    exact ⟨rfl, rfl⟩
/-- what both answer for lengths that are a code's and as many counts -/
def CostP (ls cs : List Int) (e : Ending) : Prop :=
  (∀ j, j < cs.length → cs.getD j 0 ≠ 0 → ls.getD j 0 ≠ 0) ∧ CostE (costS cs ls) 0 e ∨ (¬ ∀ j, j < cs.length → cs.getD j 0 ≠ 0 → ls.getD j 0 ≠ 0) ∧ CostE 0 53 e

set_option maxRecDepth 20000 in
set_option maxHeartbeats 1000000 in
theorem cost_ok (ls cs : List Int) (A B : Option Addr) (c d : Nat) (w : World) (hs : ISrc w A ls) (ht : ISrc w B cs) (h : okL ls) (h2 : okC cs) (hll : cs.length = ls.length) :
    Calls Try.prog 24 #[.slice A ls.length c, .slice B cs.length d] w fun e w' => CostP ls cs e ∧ Keep [] w w' := by
  have hl := h.1
  have hc := check_any ls A c w hs (by omega)
  have he : chkE ls = 0 := by unfold chkE; rw [if_pos h]
  rw [he] at hc
  have Hc := Lib.hid hc
  have Hs := Lib.hid hs
  have Ht := Lib.hid ht
  have HL := Lib.hid h.2.1
  have HC := Lib.hid h2.2
  have HLL := Lib.hid hll
  have hllf : ((cs.length : Int) != ls.length) = false := by simpa using (by omega : (cs.length : Int) = ls.length)
  have Hcn : Hid (∀ w', Keep [] w w' → Calls Try.prog 31 #[.slice B cs.length d] w' fun e w'' => e = .returned (.int .i64 0) ∧ w' = w'') := Lib.hid (fun w' hk => count_ok cs B d w' (ht.keep hk (by simp)) h2)
  clear hs ht h hc he h2 hll
  go_enter Try.func24, Try.ntmps24
  go_wp2_with (first
    | (go_at_call 19; refine Hc.out.mono ?_; rintro e w1 ⟨rfl, hk⟩; have Hk := Lib.hid hk; clear hk)
    | (go_at_call 31; refine (Hcn.out _ Hk.out).mono ?_; rintro e w' ⟨rfl, rfl⟩))
  go_loopw [8, 29] (fun vb vi wr => ∃ k q : Nat, ∃ V : Int, vi = .int .i64 k ∧ k ≤ cs.length ∧ vb = .int .i64 V ∧ wr = w1.drewN q ∧ Hid (V = costSum cs ls k ∧ ∀ j, j < k → cs.getD j 0 ≠ 0 → ls.getD j 0 ≠ 0)) (fun _ vi _ => cs.length - (intOf vi).toNat)
  case atStart => exact ⟨0, 0, 0, rfl, by omega, rfl, rfl, Lib.hid ⟨by simp [costSum, Sm], fun j hj => by omega⟩⟩
  case round =>
    obtain ⟨k, q, V, rfl, hk, rfl, rfl, hI⟩ := hrel
    rcases Nat.lt_or_ge k cs.length with hkl | hkl
    · as_aux_lemma =>
        have hkl2 : k < ls.length := by have := HLL.out; omega
        obtain ⟨g, o, rfl, hg, hc1⟩ := Hs.out k hkl2
        obtain ⟨g2, o2, rfl, hg2, hc2⟩ := Ht.out k hkl
        have d1 := (Hk.out.cell (p := ⟨g, o + k, none⟩) hg (by simp)).trans hc1
        have d2 := (Hk.out.cell (p := ⟨g2, o2 + k, none⟩) hg2 (by simp)).trans hc2
        obtain ⟨hV, hall⟩ := hI.out
        have hVr := costSum_range HC.out HL.out k
        rw [← hV] at hVr
        have hx := HC.out _ (List.getElem_mem hkl)
        have hy := HL.out _ (List.getElem_mem hkl2)
        have hcm := cost_mul hx hy
        have e1 : cs.getD k 0 = cs[k] := by simp [List.getD, hkl]
        have e2 : ls.getD k 0 = ls[k] := by simp [List.getD, hkl2]
        have Hst : Hid ((cs[k] ≠ 0 → ls[k] ≠ 0) → V + cs[k] * ls[k] = costSum cs ls (k + 1) ∧ ∀ j, j < k + 1 → cs.getD j 0 ≠ 0 → ls.getD j 0 ≠ 0) := Lib.hid (fun hn => ⟨by rw [costSum_succ, e1, e2, hV], fun j hj => by
          rcases Nat.lt_succ_iff_lt_or_eq.1 hj with h1 | rfl
          · exact hall j h1
          · rw [e1, e2]; exact hn⟩)
        have Hbad : Hid (cs[k] ≠ 0 → ls[k] = 0 → ¬ ∀ j, j < cs.length → cs.getD j 0 ≠ 0 → ls.getD j 0 ≠ 0) := Lib.hid (fun h1 h2 h3 => h3 k hkl (by rw [e1]; exact h1) (by rw [e2]; exact h2))
        have hwk : IntKind.i64.wrap ((k : Int) + 1) = (k : Int) + 1 := by rw [IntKind.wrap_i64]; omega
        have hki : (k : Int) < ls.length := by omega
        have hkc : (k : Int) < cs.length := by omega
        generalize cs[k] = x at *
        generalize ls[k] = y at *
        obtain ⟨m, hm⟩ : ∃ m, m = x * y := ⟨_, rfl⟩
        rw [← hm] at hcm Hst
        have hw1 : IntKind.i64.wrap m = m := by rw [IntKind.wrap_i64]; omega
        have hw2 : IntKind.i64.wrap (V + m) = V + m := by rw [IntKind.wrap_i64]; omega
        have hxy : x * y = m := hm.symm
        clear hI hV hall e1 e2 hc1 hc2 hm hVr
        by_cases h0 : 0 < x
        · by_cases hz : y = 0
          · have hb := Lib.hid (Hbad.out (by omega) hz)
            subst hz
            clear Hst Hbad hxy
            go_wp2
            go_ret2
            exact ⟨.inr ⟨hb.out, rfl⟩, Hk.out.drewN _⟩
          · have hyf : (y == 0) = false := by simpa using hz
            have HN := Lib.hid (Hst.out (fun _ => hz))
            clear Hst Hbad hz
            go_wp2
            exact ⟨⟨k + 1, q, V + m, by simp, by omega, by simp, rfl, HN⟩, by simp [intOf]; omega⟩
        · have HN := Lib.hid (Hst.out (fun h => absurd (by omega) h))
          clear Hst Hbad
          go_wp2
          exact ⟨⟨k + 1, q, V + m, by simp, by omega, by simp, rfl, HN⟩, by simp [intOf]; omega⟩
    · obtain rfl : k = cs.length := by omega
      have HV := Lib.hid hI.out
      clear hI
      go_wp2
      go_ret2
      exact ⟨.inl ⟨HV.out.2, by unfold CostE; rw [HV.out.1]; rfl⟩, Hk.out.drewN _⟩

set_option maxRecDepth 20000 in
set_option maxHeartbeats 1000000 in
theorem rcost_ok (ls cs : List Int) (A B : Option Addr) (c d : Nat) (w : World) (hs : ISrc w A ls) (ht : ISrc w B cs) (h : okL ls) (h2 : okC cs) (hll : cs.length = ls.length) :
    Calls Try.prog 25 #[.slice A ls.length c, .slice B cs.length d] w fun e w' => CostP ls cs e ∧ Keep [] w w' := by
  have hl := h.1
  have hc := rcheck_any ls A c w hs (by omega)
  have he : chkE ls = 0 := by unfold chkE; rw [if_pos h]
  rw [he] at hc
  have Hc := Lib.hid hc
  have Hs := Lib.hid hs
  have Ht := Lib.hid ht
  have HL := Lib.hid h.2.1
  have HC := Lib.hid h2.2
  have HLL := Lib.hid hll
  have hllf : ((cs.length : Int) != ls.length) = false := by simpa using (by omega : (cs.length : Int) = ls.length)
  have Hcn : Hid (Calls Try.prog 26 #[.slice B cs.length d] w fun e w'' => e = .returned (.bool true) ∧ w = w'') := Lib.hid ((rcounted_any cs B d w ht (by omega)).mono (by
    rintro e w' ⟨b, h1, h3, h4⟩
    cases b with
    | true => exact ⟨h1, h4⟩
    | false => exact absurd (h3.2 h2) (by simp)))
  clear hs ht h hc he h2 hll
  go_enter Try.func25, Try.ntmps25
  go_wp2_with (first
    | (go_at_call 20; refine Hc.out.mono ?_; rintro e w1 ⟨rfl, rfl⟩)
    | (go_at_call 26; refine Hcn.out.mono ?_; rintro e w' ⟨rfl, rfl⟩))
  go_loopw [7, 8] (fun vb vi wr => ∃ k q : Nat, ∃ V : Int, vi = .int .i64 k ∧ k ≤ cs.length ∧ vb = .int .i64 V ∧ wr = w.drewN q ∧ Hid (V = costSum cs ls k ∧ ∀ j, j < k → cs.getD j 0 ≠ 0 → ls.getD j 0 ≠ 0)) (fun _ vi _ => cs.length - (intOf vi).toNat)
  case atStart => exact ⟨0, 0, 0, rfl, by omega, rfl, rfl, Lib.hid ⟨by simp [costSum, Sm], fun j hj => by omega⟩⟩
  case round =>
    obtain ⟨k, q, V, rfl, hk, rfl, rfl, hI⟩ := hrel
    rcases Nat.lt_or_ge k cs.length with hkl | hkl
    · as_aux_lemma =>
        have hkl2 : k < ls.length := by have := HLL.out; omega
        obtain ⟨g, o, rfl, hg, d1⟩ := Hs.out k hkl2
        obtain ⟨g2, o2, rfl, hg2, d2⟩ := Ht.out k hkl
        obtain ⟨hV, hall⟩ := hI.out
        have hVr := costSum_range HC.out HL.out k
        rw [← hV] at hVr
        have hx := HC.out _ (List.getElem_mem hkl)
        have hy := HL.out _ (List.getElem_mem hkl2)
        have hcm := cost_mul hx hy
        have e1 : cs.getD k 0 = cs[k] := by simp [List.getD, hkl]
        have e2 : ls.getD k 0 = ls[k] := by simp [List.getD, hkl2]
        have Hst : Hid ((cs[k] ≠ 0 → ls[k] ≠ 0) → V + cs[k] * ls[k] = costSum cs ls (k + 1) ∧ ∀ j, j < k + 1 → cs.getD j 0 ≠ 0 → ls.getD j 0 ≠ 0) := Lib.hid (fun hn => ⟨by rw [costSum_succ, e1, e2, hV], fun j hj => by
          rcases Nat.lt_succ_iff_lt_or_eq.1 hj with h1 | rfl
          · exact hall j h1
          · rw [e1, e2]; exact hn⟩)
        have Hbad : Hid (cs[k] ≠ 0 → ls[k] = 0 → ¬ ∀ j, j < cs.length → cs.getD j 0 ≠ 0 → ls.getD j 0 ≠ 0) := Lib.hid (fun h1 h2 h3 => h3 k hkl (by rw [e1]; exact h1) (by rw [e2]; exact h2))
        have hwk : IntKind.i64.wrap ((k : Int) + 1) = (k : Int) + 1 := by rw [IntKind.wrap_i64]; omega
        have hki : (k : Int) < ls.length := by omega
        have hkc : (k : Int) < cs.length := by omega
        generalize cs[k] = x at *
        generalize ls[k] = y at *
        obtain ⟨m, hm⟩ : ∃ m, m = x * y := ⟨_, rfl⟩
        rw [← hm] at hcm Hst
        have hw1 : IntKind.i64.wrap m = m := by rw [IntKind.wrap_i64]; omega
        have hw2 : IntKind.i64.wrap (V + m) = V + m := by rw [IntKind.wrap_i64]; omega
        have hxy : x * y = m := hm.symm
        clear hI hV hall e1 e2 hm hVr
        by_cases h0 : x = 0
        · have HN := Lib.hid (Hst.out (fun h => absurd h0 h))
          have hm0 : m = 0 := by rw [← hxy, h0]; simp
          subst h0
          rw [hm0] at HN
          clear Hst Hbad hxy hw1 hw2 hcm hm0
          have hwv : IntKind.i64.wrap V = V := by rw [IntKind.wrap_i64]; have := costSum_range HC.out HL.out (k + 1); rw [← HN.out.1] at this; omega
          go_wp2
          go_quiet (fail)
          go_wp2
          exact ⟨⟨k + 1, _, V, by simp, by omega, rfl, rfl, by simpa using HN⟩, by simp [intOf]; omega⟩
        · have hxf : (x != 0) = true := by simpa using h0
          by_cases hz : y = 0
          · have hb := Lib.hid (Hbad.out h0 hz)
            subst hz
            clear Hst Hbad hxy
            go_wp2
            go_ret2
            exact ⟨.inr ⟨hb.out, rfl⟩, (Keep.refl _ _).drewN _⟩
          · have hyf : (y == 0) = false := by simpa using hz
            have HN := Lib.hid (Hst.out (fun _ => hz))
            clear Hst Hbad hz h0
            go_wp2
            go_quiet (fail)
            go_wp2
            exact ⟨⟨k + 1, _, V + m, by simp, by omega, by simp, rfl, HN⟩, by simp [intOf]; omega⟩
    · obtain rfl : k = cs.length := by omega
      have HV := Lib.hid hI.out
      clear hI
      go_wp2
      go_ret2
      exact ⟨.inl ⟨HV.out.2, by unfold CostE; rw [HV.out.1]; rfl⟩, (Keep.refl _ _).drewN _⟩
end Go.Proofs.Ytknjjodkpknglaa
