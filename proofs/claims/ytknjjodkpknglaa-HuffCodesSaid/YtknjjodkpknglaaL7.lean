/- HuffCodes, walked. -/
import Derived.Test.YtknjjodkpknglaaL1
import Derived.Test.YtknjjodkpknglaaS12
import Derived.Test.YtknjjodkpknglaaC4
import Derived.Test.YtknjjodkpknglaaK1
set_option linter.unusedVariables false
set_option linter.unusedSimpArgs false
namespace Go.Proofs.Ytknjjodkpknglaa
open Go.ChangeShapes Go.WideShapes Go.ChangeAt Go.RowKit Go.Sal Go.Huf
/-- a call's answer: a new row of codes and an error -/
def CodR (w : World) (l : List Nat) (E : Int) (e : Ending) (w' : World) : Prop := ∃ A c, e = .returned (.tuple #[.slice A l.length c, .int .i64 E]) ∧ w'.ownsRow w.heap.size 44 1 (.slice A l.length c) l.length (inU l) ∧ Keep [] w w'
theorem codes_both (ls : List Int) (h1 : ls.length ≤ 520) : ∃ l : List Nat, l.length ≤ 520 ∧ ∃ E, (∀ A c w, ISrc w A ls → Calls Try.prog 21 #[.slice A ls.length c] w (fun e w' => CodR w l E e w') ∧ Calls Try.prog 23 #[.slice A ls.length c] w (fun e w' => CodR w l E e w')) ∧
    ∀ A c w, ISrc w A ls → Calls Try.prog 19 #[.slice A ls.length c] w (fun e w' => e = .returned (.int .i64 E) ∧ Keep [] w w') ∧ Calls Try.prog 20 #[.slice A ls.length c] w (fun e w' => e = .returned (.int .i64 E) ∧ w = w') := by
  by_cases h : okL ls
  · have hcl := codesL_len ls
    refine ⟨codesL ls, by omega, 0, fun A c w hs => ⟨(codes_ok stab_k (Nat.le_refl _) ls A c w hs (by omega) h).mono ?_, (rcodes_ok ls A c w hs h).mono ?_⟩, fun A c w hs => ?_⟩
    · rintro e w' ⟨AO, cO, rfl, hown, hk⟩
      rw [← hcl] at hown
      exact ⟨AO, cO, by rw [hcl], hown, hk⟩
    · rintro e w' ⟨AO, cO, rfl, hown, hk⟩
      rw [← hcl] at hown
      exact ⟨AO, cO, by rw [hcl], hown, hk⟩
    · have a := check_any ls A c w hs (by omega)
      have b := rcheck_any ls A c w hs (by omega)
      have he : chkE ls = 0 := by unfold chkE; rw [if_pos h]
      rw [he] at a b
      exact ⟨a, b⟩
  · refine ⟨[], by simp, 51, fun A c w hs => ⟨(codes_bad ls A c w hs (by omega) h).mono ?_, (rcodes_bad ls A c w hs (by omega) h).mono ?_⟩, fun A c w hs => ?_⟩
    · rintro e w' ⟨rfl, hk⟩
      exact ⟨none, 0, rfl, World.ownsRow_nil _ _ _ _, hk⟩
    · rintro e w' ⟨rfl, rfl⟩
      exact ⟨none, 0, rfl, World.ownsRow_nil _ _ _ _, Keep.refl _ _⟩
    · have a := check_any ls A c w hs (by omega)
      have b := rcheck_any ls A c w hs (by omega)
      have he : chkE ls = 51 := by unfold chkE; rw [if_neg h]
      rw [he] at a b
      exact ⟨a, b⟩
theorem cost_both (ls cs : List Int) (h1 : ls.length ≤ 520) (h2 : cs.length ≤ 520) : ∃ V E, ∀ A c B d w, ISrc w A ls → ISrc w B cs →
    Calls Try.prog 24 #[.slice A ls.length c, .slice B cs.length d] w (fun e w' => CostE V E e ∧ Keep [] w w') ∧ Calls Try.prog 25 #[.slice A ls.length c, .slice B cs.length d] w (fun e w' => CostE V E e ∧ Keep [] w w') := by
  by_cases h : okL ls
  · by_cases h3 : okC cs ∧ cs.length = ls.length
    · by_cases h4 : ∀ j, j < cs.length → cs.getD j 0 ≠ 0 → ls.getD j 0 ≠ 0
      · have hx : ∀ e, CostP ls cs e → CostE (costS cs ls) 0 e := fun e hP => by
          rcases hP with hP | hP
          · exact hP.2
          · exact absurd h4 hP.1
        exact ⟨costS cs ls, 0, fun A c B d w hs ht => ⟨(cost_ok ls cs A B c d w hs ht h h3.1 h3.2).mono (fun e w' hP => ⟨hx e hP.1, hP.2⟩), (rcost_ok ls cs A B c d w hs ht h h3.1 h3.2).mono (fun e w' hP => ⟨hx e hP.1, hP.2⟩)⟩⟩
      · have hx : ∀ e, CostP ls cs e → CostE 0 53 e := fun e hP => by
          rcases hP with hP | hP
          · exact absurd hP.1 h4
          · exact hP.2
        exact ⟨0, 53, fun A c B d w hs ht => ⟨(cost_ok ls cs A B c d w hs ht h h3.1 h3.2).mono (fun e w' hP => ⟨hx e hP.1, hP.2⟩), (rcost_ok ls cs A B c d w hs ht h h3.1 h3.2).mono (fun e w' hP => ⟨hx e hP.1, hP.2⟩)⟩⟩
    · exact ⟨0, 50, fun A c B d w hs ht => ⟨cost_cnt ls cs A B c d w hs ht (by omega) h h3, (rcost_cnt ls cs A B c d w hs ht (by omega) h h3).mono (fun e w' hP => ⟨hP.1, by rw [← hP.2]; exact Keep.refl _ _⟩)⟩⟩
  · exact ⟨0, 51, fun A c B d w hs ht => ⟨cost_bad ls A c _ w hs (by omega) h, (rcost_bad ls A c _ w hs (by omega) h).mono (fun e w' hP => ⟨hP.1, by rw [← hP.2]; exact Keep.refl _ _⟩)⟩⟩
/-- an argument cut at 520 -/
theorem cut520 {w : World} {v : Value} {cs : List Int} (h : IntArg w v cs) : ∃ A c n, v = .slice A n c ∧ n ≤ c ∧ c ≤ 9223372036854775807 ∧ ISrc w A (cs.take 520) ∧ ((520 < n ∧ ∃ g o, A = some ⟨g, o, none⟩) ∧ (cs.take 520).length = 520 ∨ ¬ 520 < n ∧ (cs.take 520).length = n) := by
  obtain ⟨A, c, rfl, h1, h2, h3, _⟩ := h
  refine ⟨A, c, cs.length, rfl, h1, h2, h3.take 520, ?_⟩
  rw [List.length_take]
  rcases Nat.lt_or_ge 520 cs.length with h | h
  · obtain ⟨g, o, e, _⟩ := h3 0 (by omega)
    exact .inl ⟨⟨h, g, o, e⟩, by omega⟩
  · exact .inr ⟨by omega, by omega⟩
set_option maxRecDepth 20000 in
set_option maxHeartbeats 2000000 in
theorem law7_any (v0 : Value) (l0 : List Int) (v1 : Value) (l1 : List Int) (w : World) (h0 : IntArg w v0 l0) (h1 : IntArg w v1 l1) : Calls Try.prog 7 #[v0, v1] w fun e w' => e = .returned (.bool true) ∧ Keep [] w w' := by
  obtain ⟨A, c, n, rfl, a1, a2, hs, hln⟩ := cut520 h0
  obtain ⟨B, d, m, rfl, b1, b2, ht, hlm⟩ := cut520 h1
  have hl0 : (l0.take 520).length ≤ 520 := by rw [List.length_take]; omega
  have hl1 : (l1.take 520).length ≤ 520 := by rw [List.length_take]; omega
  generalize l0.take 520 = ls at *
  generalize l1.take 520 = cs at *
  obtain ⟨r, hr, E, hcd, hck⟩ := codes_both ls hl0
  obtain ⟨V, E2, hco⟩ := cost_both ls cs hl0 hl1
  have Hcd := Lib.hid hcd
  have Hck := Lib.hid hck
  have Hco := Lib.hid hco
  have Hs := Lib.hid hs
  have Ht := Lib.hid ht
  clear h0 h1 hcd hck hco hs ht
  have hrb : r.length ≤ 520 := hr
  rcases hln with ⟨⟨hn, ga, oa, rfl⟩, hln⟩ | ⟨hn, hln⟩
  · rcases hlm with ⟨⟨hm, gb, ob, rfl⟩, hlm⟩ | ⟨hm, hlm⟩
    · rw [hln] at Hcd Hck Hco
      rw [hlm] at Hco
      have hni : (520 : Int) < n := by omega
      have hmi : (520 : Int) < m := by omega
      clear hln hlm hl0 hl1
      as_aux_lemma =>
      go_enter Try.func7, Try.ntmps7
      go_wp2_with (first
        | (go_at_call 21; refine (Hcd.out _ c _ Hs.out).1.mono ?_; rintro e w1 ⟨A1, c1, rfl, hown1, hk1⟩; have Ho1 := Lib.hid hown1; have Hk1 := Lib.hid hk1; clear hown1 hk1)
        | (go_at_call 23; refine (Hcd.out _ c _ (Hs.out.keep Hk1.out (by simp))).2.mono ?_; rintro e w2 ⟨A2, c2, rfl, hown2, hk2⟩
           have Ho2 := Lib.hid (And.intro (ownsRow_keep Ho1.out hk2 (by simp)) hown2); have Hk2 := Lib.hid (Hk1.out.trans hk2); clear hown2 hk2)
        | (go_at_call 19; refine (Hck.out _ c _ (Hs.out.keep Hk2.out (by simp))).1.mono ?_; rintro e w3 ⟨rfl, hk3⟩
           have Ho3 := Lib.hid (And.intro (ownsRow_keep Ho2.out.1 hk3 (by simp)) (ownsRow_keep Ho2.out.2 hk3 (by simp))); have Hk3 := Lib.hid (Hk2.out.trans hk3); clear hk3)
        | (go_at_call 20; refine (Hck.out _ c _ (Hs.out.keep Hk3.out (by simp))).2.mono ?_; rintro e w4 ⟨rfl, rfl⟩))
      go_loopw [9] (fun vi wr => ∃ k q : Nat, vi = .int .i64 k ∧ k ≤ r.length ∧ wr = w3.drewN q) (fun vi _ => r.length - (intOf vi).toNat)
      case atStart => exact ⟨0, 0, rfl, by omega, rfl⟩
      case round =>
        obtain ⟨k, q, rfl, hk, rfl⟩ := hrel
        rcases Nat.lt_or_ge k r.length with hkl | hkl
        · as_aux_lemma =>
            obtain ⟨g1, rfl, _, _⟩ := own_some Ho3.out.1 (by omega)
            obtain ⟨g2, rfl, _, _⟩ := own_some Ho3.out.2 (by omega)
            have d1 := (inU_cell Ho3.out.1 hkl).1
            have d2 := (inU_cell Ho3.out.2 hkl).1
            have hwk : IntKind.i64.wrap ((k : Int) + 1) = (k : Int) + 1 := by rw [IntKind.wrap_i64]; omega
            have hki : (k : Int) < r.length := by omega
            generalize r[k] = x at *
            go_wp2
            go_quiet (fail)
            go_wp2
            exact ⟨⟨k + 1, _, by simp, by omega, rfl⟩, by simp [intOf]; omega⟩
        · obtain rfl : k = r.length := by omega
          go_wp2_with (first
            | (go_at_call 24; refine (Hco.out _ c _ d _ (Hs.out.keep (Hk3.out.drewN _) (by simp)) (Ht.out.keep (Hk3.out.drewN _) (by simp))).1.mono ?_; unfold CostE; rintro e w5 ⟨rfl, hk5⟩; have Hk5 := Lib.hid ((Hk3.out.drewN _).trans hk5); clear hk5)
            | (go_at_call 25; refine (Hco.out _ c _ d _ (Hs.out.keep Hk5.out (by simp)) (Ht.out.keep Hk5.out (by simp))).2.mono ?_; unfold CostE; rintro e w6 ⟨rfl, hk6⟩; have Hk6 := Lib.hid (Hk5.out.trans hk6); clear hk6)
            | (go_at_call 15; refine (alive_any _).mono ?_; rintro e w7 ⟨rfl, hk7⟩; have Hk7 := Lib.hid (Hk6.out.trans hk7); clear hk7))
          go_ret
          exact ⟨rfl, Hk7.out⟩
    · rw [hln] at Hcd Hck Hco
      rw [hlm] at Hco
      have hni : (520 : Int) < n := by omega
      have hmi : ¬ (520 : Int) < m := by omega
      clear hln hlm hl0 hl1
      as_aux_lemma =>
      go_enter Try.func7, Try.ntmps7
      go_wp2_with (first
        | (go_at_call 21; refine (Hcd.out _ c _ Hs.out).1.mono ?_; rintro e w1 ⟨A1, c1, rfl, hown1, hk1⟩; have Ho1 := Lib.hid hown1; have Hk1 := Lib.hid hk1; clear hown1 hk1)
        | (go_at_call 23; refine (Hcd.out _ c _ (Hs.out.keep Hk1.out (by simp))).2.mono ?_; rintro e w2 ⟨A2, c2, rfl, hown2, hk2⟩
           have Ho2 := Lib.hid (And.intro (ownsRow_keep Ho1.out hk2 (by simp)) hown2); have Hk2 := Lib.hid (Hk1.out.trans hk2); clear hown2 hk2)
        | (go_at_call 19; refine (Hck.out _ c _ (Hs.out.keep Hk2.out (by simp))).1.mono ?_; rintro e w3 ⟨rfl, hk3⟩
           have Ho3 := Lib.hid (And.intro (ownsRow_keep Ho2.out.1 hk3 (by simp)) (ownsRow_keep Ho2.out.2 hk3 (by simp))); have Hk3 := Lib.hid (Hk2.out.trans hk3); clear hk3)
        | (go_at_call 20; refine (Hck.out _ c _ (Hs.out.keep Hk3.out (by simp))).2.mono ?_; rintro e w4 ⟨rfl, rfl⟩))
      go_loopw [9] (fun vi wr => ∃ k q : Nat, vi = .int .i64 k ∧ k ≤ r.length ∧ wr = w3.drewN q) (fun vi _ => r.length - (intOf vi).toNat)
      case atStart => exact ⟨0, 0, rfl, by omega, rfl⟩
      case round =>
        obtain ⟨k, q, rfl, hk, rfl⟩ := hrel
        rcases Nat.lt_or_ge k r.length with hkl | hkl
        · as_aux_lemma =>
            obtain ⟨g1, rfl, _, _⟩ := own_some Ho3.out.1 (by omega)
            obtain ⟨g2, rfl, _, _⟩ := own_some Ho3.out.2 (by omega)
            have d1 := (inU_cell Ho3.out.1 hkl).1
            have d2 := (inU_cell Ho3.out.2 hkl).1
            have hwk : IntKind.i64.wrap ((k : Int) + 1) = (k : Int) + 1 := by rw [IntKind.wrap_i64]; omega
            have hki : (k : Int) < r.length := by omega
            generalize r[k] = x at *
            go_wp2
            go_quiet (fail)
            go_wp2
            exact ⟨⟨k + 1, _, by simp, by omega, rfl⟩, by simp [intOf]; omega⟩
        · obtain rfl : k = r.length := by omega
          go_wp2_with (first
            | (go_at_call 24; refine (Hco.out _ c _ d _ (Hs.out.keep (Hk3.out.drewN _) (by simp)) (Ht.out.keep (Hk3.out.drewN _) (by simp))).1.mono ?_; unfold CostE; rintro e w5 ⟨rfl, hk5⟩; have Hk5 := Lib.hid ((Hk3.out.drewN _).trans hk5); clear hk5)
            | (go_at_call 25; refine (Hco.out _ c _ d _ (Hs.out.keep Hk5.out (by simp)) (Ht.out.keep Hk5.out (by simp))).2.mono ?_; unfold CostE; rintro e w6 ⟨rfl, hk6⟩; have Hk6 := Lib.hid (Hk5.out.trans hk6); clear hk6)
            | (go_at_call 15; refine (alive_any _).mono ?_; rintro e w7 ⟨rfl, hk7⟩; have Hk7 := Lib.hid (Hk6.out.trans hk7); clear hk7))
          go_ret
          exact ⟨rfl, Hk7.out⟩
  · rcases hlm with ⟨⟨hm, gb, ob, rfl⟩, hlm⟩ | ⟨hm, hlm⟩
    · rw [hln] at Hcd Hck Hco
      rw [hlm] at Hco
      have hni : ¬ (520 : Int) < n := by omega
      have hmi : (520 : Int) < m := by omega
      clear hln hlm hl0 hl1
      as_aux_lemma =>
      go_enter Try.func7, Try.ntmps7
      go_wp2_with (first
        | (go_at_call 21; refine (Hcd.out _ c _ Hs.out).1.mono ?_; rintro e w1 ⟨A1, c1, rfl, hown1, hk1⟩; have Ho1 := Lib.hid hown1; have Hk1 := Lib.hid hk1; clear hown1 hk1)
        | (go_at_call 23; refine (Hcd.out _ c _ (Hs.out.keep Hk1.out (by simp))).2.mono ?_; rintro e w2 ⟨A2, c2, rfl, hown2, hk2⟩
           have Ho2 := Lib.hid (And.intro (ownsRow_keep Ho1.out hk2 (by simp)) hown2); have Hk2 := Lib.hid (Hk1.out.trans hk2); clear hown2 hk2)
        | (go_at_call 19; refine (Hck.out _ c _ (Hs.out.keep Hk2.out (by simp))).1.mono ?_; rintro e w3 ⟨rfl, hk3⟩
           have Ho3 := Lib.hid (And.intro (ownsRow_keep Ho2.out.1 hk3 (by simp)) (ownsRow_keep Ho2.out.2 hk3 (by simp))); have Hk3 := Lib.hid (Hk2.out.trans hk3); clear hk3)
        | (go_at_call 20; refine (Hck.out _ c _ (Hs.out.keep Hk3.out (by simp))).2.mono ?_; rintro e w4 ⟨rfl, rfl⟩))
      go_loopw [9] (fun vi wr => ∃ k q : Nat, vi = .int .i64 k ∧ k ≤ r.length ∧ wr = w3.drewN q) (fun vi _ => r.length - (intOf vi).toNat)
      case atStart => exact ⟨0, 0, rfl, by omega, rfl⟩
      case round =>
        obtain ⟨k, q, rfl, hk, rfl⟩ := hrel
        rcases Nat.lt_or_ge k r.length with hkl | hkl
        · as_aux_lemma =>
            obtain ⟨g1, rfl, _, _⟩ := own_some Ho3.out.1 (by omega)
            obtain ⟨g2, rfl, _, _⟩ := own_some Ho3.out.2 (by omega)
            have d1 := (inU_cell Ho3.out.1 hkl).1
            have d2 := (inU_cell Ho3.out.2 hkl).1
            have hwk : IntKind.i64.wrap ((k : Int) + 1) = (k : Int) + 1 := by rw [IntKind.wrap_i64]; omega
            have hki : (k : Int) < r.length := by omega
            generalize r[k] = x at *
            go_wp2
            go_quiet (fail)
            go_wp2
            exact ⟨⟨k + 1, _, by simp, by omega, rfl⟩, by simp [intOf]; omega⟩
        · obtain rfl : k = r.length := by omega
          go_wp2_with (first
            | (go_at_call 24; refine (Hco.out _ c _ d _ (Hs.out.keep (Hk3.out.drewN _) (by simp)) (Ht.out.keep (Hk3.out.drewN _) (by simp))).1.mono ?_; unfold CostE; rintro e w5 ⟨rfl, hk5⟩; have Hk5 := Lib.hid ((Hk3.out.drewN _).trans hk5); clear hk5)
            | (go_at_call 25; refine (Hco.out _ c _ d _ (Hs.out.keep Hk5.out (by simp)) (Ht.out.keep Hk5.out (by simp))).2.mono ?_; unfold CostE; rintro e w6 ⟨rfl, hk6⟩; have Hk6 := Lib.hid (Hk5.out.trans hk6); clear hk6)
            | (go_at_call 15; refine (alive_any _).mono ?_; rintro e w7 ⟨rfl, hk7⟩; have Hk7 := Lib.hid (Hk6.out.trans hk7); clear hk7))
          go_ret
          exact ⟨rfl, Hk7.out⟩
    · rw [hln] at Hcd Hck Hco
      rw [hlm] at Hco
      have hni : ¬ (520 : Int) < n := by omega
      have hmi : ¬ (520 : Int) < m := by omega
      clear hln hlm hl0 hl1
      as_aux_lemma =>
      go_enter Try.func7, Try.ntmps7
      go_wp2_with (first
        | (go_at_call 21; refine (Hcd.out _ c _ Hs.out).1.mono ?_; rintro e w1 ⟨A1, c1, rfl, hown1, hk1⟩; have Ho1 := Lib.hid hown1; have Hk1 := Lib.hid hk1; clear hown1 hk1)
        | (go_at_call 23; refine (Hcd.out _ c _ (Hs.out.keep Hk1.out (by simp))).2.mono ?_; rintro e w2 ⟨A2, c2, rfl, hown2, hk2⟩
           have Ho2 := Lib.hid (And.intro (ownsRow_keep Ho1.out hk2 (by simp)) hown2); have Hk2 := Lib.hid (Hk1.out.trans hk2); clear hown2 hk2)
        | (go_at_call 19; refine (Hck.out _ c _ (Hs.out.keep Hk2.out (by simp))).1.mono ?_; rintro e w3 ⟨rfl, hk3⟩
           have Ho3 := Lib.hid (And.intro (ownsRow_keep Ho2.out.1 hk3 (by simp)) (ownsRow_keep Ho2.out.2 hk3 (by simp))); have Hk3 := Lib.hid (Hk2.out.trans hk3); clear hk3)
        | (go_at_call 20; refine (Hck.out _ c _ (Hs.out.keep Hk3.out (by simp))).2.mono ?_; rintro e w4 ⟨rfl, rfl⟩))
      go_loopw [9] (fun vi wr => ∃ k q : Nat, vi = .int .i64 k ∧ k ≤ r.length ∧ wr = w3.drewN q) (fun vi _ => r.length - (intOf vi).toNat)
      case atStart => exact ⟨0, 0, rfl, by omega, rfl⟩
      case round =>
        obtain ⟨k, q, rfl, hk, rfl⟩ := hrel
        rcases Nat.lt_or_ge k r.length with hkl | hkl
        · as_aux_lemma =>
            obtain ⟨g1, rfl, _, _⟩ := own_some Ho3.out.1 (by omega)
            obtain ⟨g2, rfl, _, _⟩ := own_some Ho3.out.2 (by omega)
            have d1 := (inU_cell Ho3.out.1 hkl).1
            have d2 := (inU_cell Ho3.out.2 hkl).1
            have hwk : IntKind.i64.wrap ((k : Int) + 1) = (k : Int) + 1 := by rw [IntKind.wrap_i64]; omega
            have hki : (k : Int) < r.length := by omega
            generalize r[k] = x at *
            go_wp2
            go_quiet (fail)
            go_wp2
            exact ⟨⟨k + 1, _, by simp, by omega, rfl⟩, by simp [intOf]; omega⟩
        · obtain rfl : k = r.length := by omega
          go_wp2_with (first
            | (go_at_call 24; refine (Hco.out _ c _ d _ (Hs.out.keep (Hk3.out.drewN _) (by simp)) (Ht.out.keep (Hk3.out.drewN _) (by simp))).1.mono ?_; unfold CostE; rintro e w5 ⟨rfl, hk5⟩; have Hk5 := Lib.hid ((Hk3.out.drewN _).trans hk5); clear hk5)
            | (go_at_call 25; refine (Hco.out _ c _ d _ (Hs.out.keep Hk5.out (by simp)) (Ht.out.keep Hk5.out (by simp))).2.mono ?_; unfold CostE; rintro e w6 ⟨rfl, hk6⟩; have Hk6 := Lib.hid (Hk5.out.trans hk6); clear hk6)
            | (go_at_call 15; refine (alive_any _).mono ?_; rintro e w7 ⟨rfl, hk7⟩; have Hk7 := Lib.hid (Hk6.out.trans hk7); clear hk7))
          go_ret
          exact ⟨rfl, Hk7.out⟩
end Go.Proofs.Ytknjjodkpknglaa
