/- HuffKraft, walked. -/
import Derived.Test.YtknjjodkpknglaaL2
import Derived.Test.YtknjjodkpknglaaHfJ
import Derived.Test.YtknjjodkpknglaaC3
set_option linter.unusedVariables false
set_option linter.unusedSimpArgs false
namespace Go.Proofs.Ytknjjodkpknglaa
open Go.ChangeShapes Go.WideShapes Go.ChangeAt Go.RowKit Go.Sal Go.Huf
theorem chk_zero {ls : List Int} (h : okL ls) : chkE ls = 0 := by unfold chkE; rw [if_pos h]
set_option maxRecDepth 20000 in
set_option maxHeartbeats 2000000 in
theorem law5_any (v : Value) (cs : List Int) (w : World) (h : IntArg w v cs) : Calls Try.prog 5 #[v] w fun e w' => e = .returned (.bool true) ∧ Keep [] w w' := by
  have Hf := Lib.hid (few_ints h)
  clear h
  have hl60 : (cs.take 60).length ≤ 60 := by rw [List.length_take]; omega
  generalize cs.take 60 = l at *
  by_cases hok : okC l
  · obtain ⟨hL, hLl, hLz⟩ := lens_ok hok
    have Hlen : Hid (∀ A c w, ISrc w A l → Calls Try.prog 12 #[.slice A l.length c] w (fun e w' => ∃ AO cO, e = .returned (.tuple #[.slice AO l.length cO, .int .i64 0]) ∧ ISrc w' AO (toI (lens l)) ∧ Keep [] w w')) :=
      Lib.hid (fun A c w hs => (lengths_ok l A c w hs hok).mono (by
        rintro e w' ⟨AO, cO, rfl, hown, hk⟩
        exact ⟨AO, cO, rfl, ISrc.of_own hown, hk⟩))
    have Hch : Hid (∀ A c w, ISrc w A (toI (lens l)) → Calls Try.prog 19 #[.slice A l.length c] w (fun e w' => e = .returned (.int .i64 0) ∧ Keep [] w w') ∧ Calls Try.prog 20 #[.slice A l.length c] w (fun e w' => e = .returned (.int .i64 0) ∧ w = w')) :=
      Lib.hid (fun A c w hs => by
        have h1 := check_any (toI (lens l)) A c w hs (by omega)
        have h2 := rcheck_any (toI (lens l)) A c w hs (by omega)
        rw [hLl, chk_zero hL] at h1 h2
        exact ⟨h1, h2⟩)
    have HZ := Lib.hid hLz
    have HLl := Lib.hid hLl
    generalize toI (lens l) = r at *
    clear hL hLl hLz hok
    go_enter Try.func5, Try.ntmps5
    go_wp2_with (first
      | (go_at_call 11; refine Hf.out.mono ?_; rintro e w1 ⟨A, c, rfl, _, hs, rfl⟩; have Hs := Lib.hid hs; clear hs)
      | (go_at_call 12; refine (Hlen.out A c _ Hs.out).mono ?_; rintro e w1 ⟨A1, c1, rfl, hs1, hk1⟩
         have Hs1 := Lib.hid hs1; have Hk1 := Lib.hid hk1; clear hs1 hk1)
      | (go_at_call 19; refine (Hch.out A1 c1 _ Hs1.out).1.mono ?_; rintro e w2 ⟨rfl, hk2⟩
         have Hs2 := Lib.hid (Hs1.out.keep hk2 (by simp)); have Hk2 := Lib.hid (Hk1.out.trans hk2); clear hk2)
      | (go_at_call 20; refine (Hch.out A1 c1 _ Hs2.out).2.mono ?_; rintro e w3 ⟨rfl, rfl⟩))
    go_loopw [5] (fun vi wr => ∃ k q : Nat, vi = .int .i64 k ∧ k ≤ l.length ∧ wr = w2.drewN q) (fun vi _ => l.length - (intOf vi).toNat)
    case atStart => exact ⟨0, 0, rfl, by omega, rfl⟩
    case round =>
      obtain ⟨k, q, rfl, hk, rfl⟩ := hrel
      rcases Nat.lt_or_ge k l.length with hkl | hkl
      · as_aux_lemma =>
          have hkr : k < r.length := by rw [HLl.out]; exact hkl
          obtain ⟨g, o, rfl, hg, hc⟩ := Hs2.out k hkr
          obtain ⟨g2, o2, rfl, hg2, hc2'⟩ := Hs.out k hkl
          have hc2 := (Hk2.out.cell (p := ⟨g2, o2 + k, none⟩) hg2 (by simp)).trans hc2'
          have hz := HZ.out k hkl
          have e1 : r.getD k 0 = r[k] := by simp [List.getD, hkr]
          have e2 : l.getD k 0 = l[k] := by simp [List.getD, hkl]
          rw [e1, e2] at hz
          have hwk : IntKind.i64.wrap ((k : Int) + 1) = (k : Int) + 1 := by rw [IntKind.wrap_i64]; omega
          have hki : (k : Int) < l.length := by omega
          generalize r[k] = x at *
          generalize l[k] = y at *
          clear hc2' e1 e2
          by_cases hx : x = 0
          · have hy := hz.1 hx
            subst hx hy
            clear hz
            go_wp2
            go_quiet (fail)
            go_wp2
            exact ⟨⟨k + 1, _, by simp, by omega, rfl⟩, by simp [intOf]; omega⟩
          · have hxf : (x == 0) = false := by simpa using hx
            have hyf : (y == 0) = false := by simpa using (fun h => hx (hz.2 h))
            clear hz hx
            go_wp2
            go_quiet (fail)
            go_wp2
            exact ⟨⟨k + 1, _, by simp, by omega, rfl⟩, by simp [intOf]; omega⟩
      · obtain rfl : k = l.length := by omega
        go_wp2_with (go_at_call 15; refine (alive_any _).mono ?_; rintro e w4 ⟨rfl, hk4⟩; have Hk4 := Lib.hid ((Hk2.out.drewN _).trans hk4); clear hk4)
        go_ret
        exact ⟨rfl, Hk4.out⟩
  · have Hlen : Hid (∀ A c w, ISrc w A l → Calls Try.prog 12 #[.slice A l.length c] w (fun e w' => e = .returned (.tuple #[.slice none 0 0, .int .i64 50]) ∧ w = w')) :=
      Lib.hid (fun A c w hs => lengths_bad l A c w hs (by omega) hok)
    clear hok
    go_enter Try.func5, Try.ntmps5
    go_wp2_with (first
      | (go_at_call 11; refine Hf.out.mono ?_; rintro e w1 ⟨A, c, rfl, _, hs, rfl⟩; have Hs := Lib.hid hs; clear hs)
      | (go_at_call 12; refine (Hlen.out A c _ Hs.out).mono ?_; rintro e w1 ⟨rfl, rfl⟩)
      | (go_at_call 15; refine (alive_any _).mono ?_; rintro e w4 ⟨rfl, hk4⟩; have Hk4 := Lib.hid hk4; clear hk4))
    go_ret
    exact ⟨rfl, Hk4.out⟩
end Go.Proofs.Ytknjjodkpknglaa
