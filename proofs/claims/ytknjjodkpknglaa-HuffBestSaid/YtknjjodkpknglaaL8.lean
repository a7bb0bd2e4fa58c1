/- HuffBest, walked. -/
import Derived.Test.YtknjjodkpknglaaL5
import Derived.Test.YtknjjodkpknglaaK1
set_option linter.unusedVariables false
set_option linter.unusedSimpArgs false
namespace Go.Proofs.Ytknjjodkpknglaa
open Go.ChangeShapes Go.WideShapes Go.ChangeAt Go.RowKit Go.Sal Go.Huf
/-- what the reference says of another's lengths: an error, or at least so much -/
theorem rcost_best (ot cs : List Int) (A B : Option Addr) (c d : Nat) (w : World) (hs : ISrc w A ot) (ht : ISrc w B cs) (hn : ot.length ≤ 9223372036854775807) (hc : okC cs) (n : Int) (hb : okL ot → ot.length = cs.length → (∀ j, j < cs.length → 0 < cs.getD j 0 → ot.getD j 0 ≠ 0) → n ≤ costS cs ot) :
    Calls Try.prog 25 #[.slice A ot.length c, .slice B cs.length d] w fun e w' => ∃ m g : Int, e = .returned (.tuple #[.int .i64 m, .int .i64 g]) ∧ ((g != 0) = true ∨ (g != 0) = false ∧ n ≤ m) ∧ Keep [] w w' := by
  have hl := hc.1
  by_cases h1 : okL ot
  · by_cases h2 : cs.length = ot.length
    · refine (rcost_ok ot cs A B c d w hs ht h1 hc h2).mono ?_
      rintro e w' ⟨h | h, hk⟩
      · refine ⟨_, 0, h.2, .inr ⟨rfl, hb h1 h2.symm (fun j hj hp => h.1 j hj (by omega))⟩, hk⟩
      · exact ⟨_, 53, h.2, .inl rfl, hk⟩
    · refine (rcost_cnt ot cs A B c d w hs ht (by omega) h1 (fun h => h2 h.2)).mono ?_
      rintro e w' ⟨h, rfl⟩
      exact ⟨_, 50, h, .inl rfl, Keep.refl _ _⟩
  · refine (rcost_bad ot A c _ w hs hn h1).mono ?_
    rintro e w' ⟨h, rfl⟩
    exact ⟨_, 51, h, .inl rfl, Keep.refl _ _⟩
set_option maxRecDepth 20000 in
set_option maxHeartbeats 2000000 in
theorem law8_any (v0 : Value) (l0 : List Int) (v1 : Value) (ot : List Int) (w : World) (h0 : IntArg w v0 l0) (h1 : IntArg w v1 ot) : Calls Try.prog 8 #[v0, v1] w fun e w' => e = .returned (.bool true) ∧ Keep [] w w' := by
  have Hf := Lib.hid (few_ints h0)
  obtain ⟨AO, cO, rfl, hoc, hocm, hos, _⟩ := h1
  have Hos := Lib.hid hos
  clear h0 hos
  have hl60 : (l0.take 60).length ≤ 60 := by rw [List.length_take]; omega
  generalize l0.take 60 = l at *
  by_cases hok : okC l
  · have Hcn : Hid (∀ A c w, ISrc w A l → Calls Try.prog 26 #[.slice A l.length c] w fun e w'' => e = .returned (.bool true) ∧ w = w'') := Lib.hid (fun A c w hs => (rcounted_any l A c w hs (by omega)).mono (by
      rintro e w' ⟨b, h1, h3, h4⟩
      cases b with
      | true => exact ⟨h1, h4⟩
      | false => exact absurd (h3.2 hok) (by simp)))
    have Hdp : Hid (∀ A c w, ISrc w A l → Calls Try.prog 28 #[.slice A l.length c] w fun e w' => ∃ g4, e = .returned (.slice (some ⟨g4, 0, none⟩) l.length l.length) ∧ ISrc w' (some ⟨g4, 0, none⟩) (toI (depths l)) ∧ Keep [] w w') := Lib.hid (fun A c w hs => (rdepths_any l A c w hs (by omega) hok.2).mono (by
      rintro e w' ⟨g4, rfl, hown, hk⟩
      exact ⟨g4, rfl, ISrc.of_own hown, hk⟩))
    have hdl : (toI (depths l)).length = l.length := depths_len
    by_cases hdeep : ∃ d ∈ toI (depths l), 15 < d
    · have Hde : Hid (∀ A c w, ISrc w A (toI (depths l)) → Calls Try.prog 27 #[.slice A l.length c] w fun e w'' => e = .returned (.bool true) ∧ w = w'') := Lib.hid (fun A c w hs => by
        have := rdeep_any (toI (depths l)) A c w hs (by omega)
        rw [hdl] at this
        refine this.mono ?_
        rintro e w' ⟨b, h1, h3, h4⟩
        cases b with
        | true => exact ⟨h1, h4⟩
        | false => exact absurd (h3.2 hdeep) (by simp))
      generalize toI (depths l) = dl at *
      clear hok hdl hdeep
      go_enter Try.func8, Try.ntmps8
      go_wp2_with (first
        | (go_at_call 11; refine Hf.out.mono ?_; rintro e w1 ⟨A, c, rfl, _, hs, rfl⟩; have Hs := Lib.hid hs; clear hs)
        | (go_at_call 26; refine (Hcn.out A c _ Hs.out).mono ?_; rintro e w1 ⟨rfl, rfl⟩)
        | (go_at_call 28; refine (Hdp.out A c _ Hs.out).mono ?_; rintro e w1 ⟨g4, rfl, hs1, hk1⟩; have Hs1 := Lib.hid hs1; have Hk1 := Lib.hid hk1; clear hs1 hk1)
        | (go_at_call 27; refine (Hde.out _ _ _ Hs1.out).mono ?_; rintro e w2 ⟨rfl, rfl⟩)
        | (go_at_call 15; refine (alive_any _).mono ?_; rintro e w4 ⟨rfl, hk4⟩; have Hk4 := Lib.hid (Hk1.out.trans hk4); clear hk4))
      go_ret
      exact ⟨rfl, Hk4.out⟩
    · have hdm : dMost l l.length ≤ 15 := dMost_le l 15 (fun i hi => by
        apply Classical.byContradiction
        intro hc
        refine hdeep ⟨(dAt l i : Int), ?_, by omega⟩
        unfold toI depths
        simp only [List.map_map, List.mem_map, List.mem_range, Function.comp]
        exact ⟨i, hi, rfl⟩) _ (Nat.le_refl _)
      have Hde : Hid (∀ A c w, ISrc w A (toI (depths l)) → Calls Try.prog 27 #[.slice A l.length c] w fun e w'' => e = .returned (.bool false) ∧ w = w'') := Lib.hid (fun A c w hs => by
        have := rdeep_any (toI (depths l)) A c w hs (by omega)
        rw [hdl] at this
        refine this.mono ?_
        rintro e w' ⟨b, h1, h3, h4⟩
        cases b with
        | false => exact ⟨h1, h4⟩
        | true => exact absurd (h3.1 rfl) hdeep)
      have hle := lens_flat hdm
      obtain ⟨hL, hLl, hLz⟩ := lens_ok hok
      rw [hle] at hL hLl hLz
      have Hlen : Hid (∀ A c w, ISrc w A l → Calls Try.prog 12 #[.slice A l.length c] w (fun e w' => ∃ AO cO, e = .returned (.tuple #[.slice AO l.length cO, .int .i64 0]) ∧ ISrc w' AO (toI (depths l)) ∧ Keep [] w w')) :=
        Lib.hid (fun A c w hs => (lengths_ok l A c w hs hok).mono (by
          rintro e w' ⟨AO, cO, rfl, hown, hk⟩
          rw [hle] at hown
          exact ⟨AO, cO, rfl, ISrc.of_own hown, hk⟩))
      obtain ⟨n, hn⟩ : ∃ n, n = costS l (toI (depths l)) := ⟨_, rfl⟩
      have Hco : Hid (∀ A c B d w, ISrc w A (toI (depths l)) → ISrc w B l → Calls Try.prog 24 #[.slice A l.length c, .slice B l.length d] w (fun e w' => e = .returned (.tuple #[.int .i64 n, .int .i64 0]) ∧ Keep [] w w')) :=
        Lib.hid (fun A c B d w hs ht => by
          have := cost_ok (toI (depths l)) l A B c d w hs ht hL hok hLl.symm
          rw [hLl] at this
          refine this.mono ?_
          rintro e w' ⟨h | h, hk⟩
          · exact ⟨by rw [hn]; exact h.2, hk⟩
          · exact absurd (fun j hj hc h0 => hc ((hLz j hj).1 h0)) h.1)
      have Hro : Hid (∀ A c B d w, ISrc w A ot → ISrc w B l → Calls Try.prog 25 #[.slice A ot.length c, .slice B l.length d] w (fun e w' => ∃ m g : Int, e = .returned (.tuple #[.int .i64 m, .int .i64 g]) ∧ ((g != 0) = true ∨ (g != 0) = false ∧ n ≤ m) ∧ Keep [] w w')) :=
        Lib.hid (fun A c B d w hs ht => rcost_best ot l A B c d w hs ht (by omega) hok n (fun h1 h2 h3 => by
          rw [hn]
          exact depths_best (fun x hx => (hok.2 x hx).1) h1 h2 h3))
      generalize toI (depths l) = dl at *
      clear hok hdl hdeep hdm hle hL hLl hLz hn
      go_enter Try.func8, Try.ntmps8
      go_wp2_with (first
        | (go_at_call 11; refine Hf.out.mono ?_; rintro e w1 ⟨A, c, rfl, _, hs, rfl⟩; have Hs := Lib.hid hs; clear hs)
        | (go_at_call 26; refine (Hcn.out A c _ Hs.out).mono ?_; rintro e w1 ⟨rfl, rfl⟩)
        | (go_at_call 28; refine (Hdp.out A c _ Hs.out).mono ?_; rintro e w1 ⟨g4, rfl, hs1, hk1⟩; have Hs1 := Lib.hid hs1; have Hk1 := Lib.hid hk1; clear hs1 hk1)
        | (go_at_call 27; refine (Hde.out _ _ _ Hs1.out).mono ?_; rintro e w2 ⟨rfl, rfl⟩)
        | (go_at_call 12; refine (Hlen.out A c _ (Hs.out.keep Hk1.out (by simp))).mono ?_; rintro e w2 ⟨A2, c2, rfl, hs2, hk2⟩
           have Hs2 := Lib.hid hs2; have Hk2 := Lib.hid (Hk1.out.trans hk2); clear hs2 hk2)
        | (go_at_call 24; refine (Hco.out A2 c2 A c _ Hs2.out (Hs.out.keep Hk2.out (by simp))).mono ?_; rintro e w3 ⟨rfl, hk3⟩
           have Hk3 := Lib.hid (Hk2.out.trans hk3); clear hk3))
      have Hr := Lib.hid (Hro.out AO cO A c w3 (Hos.out.keep Hk3.out (by simp)) (Hs.out.keep Hk3.out (by simp)))
      go_wp2_with (go_at_call 25; refine Hr.out.mono ?_; rintro e w5 ⟨m, g, rfl, hmg, hk5⟩; have Hk5 := Lib.hid (Hk3.out.trans hk5); clear hk5; rcases hmg with hg | ⟨hg, hnm⟩)
      · go_wp2_with (go_at_call 15; refine (alive_any _).mono ?_; rintro e w6 ⟨rfl, hk6⟩; have Hk6 := Lib.hid (Hk5.out.trans hk6); clear hk6)
        go_ret
        exact ⟨rfl, Hk6.out⟩
      · go_wp2_with (go_at_call 15; refine (alive_any _).mono ?_; rintro e w6 ⟨rfl, hk6⟩; have Hk6 := Lib.hid (Hk5.out.trans hk6); clear hk6)
        go_ret
        exact ⟨rfl, Hk6.out⟩
  · have Hcn : Hid (∀ A c w, ISrc w A l → Calls Try.prog 26 #[.slice A l.length c] w fun e w'' => e = .returned (.bool false) ∧ w = w'') := Lib.hid (fun A c w hs => (rcounted_any l A c w hs (by omega)).mono (by
      rintro e w' ⟨b, h1, h3, h4⟩
      cases b with
      | false => exact ⟨h1, h4⟩
      | true => exact absurd (h3.1 rfl) hok))
    clear hok
    go_enter Try.func8, Try.ntmps8
    go_wp2_with (first
      | (go_at_call 11; refine Hf.out.mono ?_; rintro e w1 ⟨A, c, rfl, _, hs, rfl⟩; have Hs := Lib.hid hs; clear hs)
      | (go_at_call 26; refine (Hcn.out A c _ Hs.out).mono ?_; rintro e w1 ⟨rfl, rfl⟩)
      | (go_at_call 15; refine (alive_any _).mono ?_; rintro e w4 ⟨rfl, hk4⟩; have Hk4 := Lib.hid hk4; clear hk4))
    go_ret
    exact ⟨rfl, Hk4.out⟩
end Go.Proofs.Ytknjjodkpknglaa
