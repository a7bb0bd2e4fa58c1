/- slices.symMergeCmpFunc, walked. -/
import Derived.Test.YtdnaahbhfjclpaaGreatDoorS10
set_option linter.unusedVariables false
set_option linter.unusedSimpArgs false
namespace Go.Proofs.YtdnaahbhfjclpaaGreatDoor
open Go.RowKit Go.Sal Go.Huf
set_option maxRecDepth 20000 in
set_option maxHeartbeats 16000000 in
theorem sym_gen {key : Nat → Int} {m0 base g n cap bx N : Nat} (IH : SymOK key m0 base g n cap bx N) (hn : n ≤ 1000000) (hk : ∀ z < m0, -100 ≤ key z ∧ key z ≤ 100) (A B P R : List Nat) (w : World) (hN : A.length + B.length = N + 1) (hA : 2 ≤ A.length) (hB : 2 ≤ B.length)
    (hrow : w.ownsRow base 3 1 (.slice (some ⟨g, 0, none⟩) n cap) n (inN (P ++ (A ++ B) ++ R))) (hc : Cmp g w key m0 bx) (hT : Two key m0 A B) :
    Calls Tryz.prog 168 #[.slice (some ⟨g, 0, none⟩) n cap, .int .i64 (P.length : Nat), .int .i64 ((P.length + A.length : Nat) : Int), .int .i64 ((P.length + A.length + B.length : Nat) : Int), .func (.func 157) #[] #[.pointer (some ⟨bx, 0, none⟩)]] w fun e w' =>
      e = .returned (.tuple #[]) ∧ SR w base g n cap (P ++ isort key (A ++ B) ++ R) w' := by
  have hnl := row_n hrow
  simp only [List.length_append] at hnl
  obtain ⟨M, hM⟩ : ∃ M, M = (A.length + B.length) / 2 := ⟨_, rfl⟩
  have Hbh : Hid (∀ wr s, SS key A B M (M - B.length) (min M A.length) s s → SR w base g n cap (P ++ (A ++ B) ++ R) wr → ∃ D1 D2, ∀ m b mid st en : Nat, m = P.length + A.length → b = P.length + A.length + B.length → mid = P.length + M → st = P.length + s → en = P.length + M + (A.length - s) →
      Behind key base g n cap bx P.length m b mid st en (s = 0) (s = A.length) (M = s) (M = s + B.length) w wr D1 D2 (P ++ isort key (A ++ B) ++ R)) :=
    Lib.hid (fun wr s hs hr => behind IH hT hc hn hN (by omega) hM hs rfl rfl hr)
  have Hrow := Lib.hid hrow
  have Hc := Lib.hid hc
  have HT := Lib.hid hT
  have Hk := Lib.hid hk
  obtain ⟨a, ha⟩ : ∃ a, a = P.length := ⟨_, rfl⟩
  obtain ⟨α, hα⟩ : ∃ α, α = A.length := ⟨_, rfl⟩
  obtain ⟨β, hβ⟩ : ∃ β, β = B.length := ⟨_, rfl⟩
  rw [← ha, ← hα, ← hβ] at Hbh ⊢
  have Hl := Lib.hid (And.intro ha (And.intro hα hβ))
  rw [← hα, ← hβ] at hM hnl
  rw [← hα] at hA
  rw [← hβ] at hB
  rw [← ha] at hnl
  obtain ⟨m, hme⟩ : ∃ m, m = a + α := ⟨_, rfl⟩
  obtain ⟨b, hbe⟩ : ∃ b, b = a + α + β := ⟨_, rfl⟩
  obtain ⟨mid, hmid⟩ : ∃ mid, mid = a + M := ⟨_, rfl⟩
  obtain ⟨nn, hnn⟩ : ∃ nn, nn = mid + m := ⟨_, rfl⟩
  rw [← hbe, ← hme]
  have hbn : b ≤ n := by omega
  have hMd : M < α + β := by omega
  obtain ⟨s0, hs0⟩ : ∃ s0, s0 = a + b := ⟨_, rfl⟩
  have hw1 : IntKind.i64.wrap ((m : Int) - a) = (α : Int) := by rw [IntKind.wrap_i64]; omega
  have hw1n : ((α : Int) == 1) = false := by simpa using (by omega : (α : Int) ≠ 1)
  have hw2 : IntKind.i64.wrap ((b : Int) - m) = (β : Int) := by rw [IntKind.wrap_i64]; omega
  have hw2n : ((β : Int) == 1) = false := by simpa using (by omega : (β : Int) ≠ 1)
  have hw3 : IntKind.i64.wrap ((a : Int) + b) = (s0 : Int) := by rw [IntKind.wrap_i64]; omega
  have hw4 : IntKind.u64.wrap (s0 : Int) = (s0 : Int) := by rw [IntKind.wrap_u64]; omega
  have hw5 := half_cast s0 mid (by omega)
  have hw6 : IntKind.i64.wrap (mid : Int) = (mid : Int) := by rw [IntKind.wrap_i64]; omega
  have hw7 : IntKind.i64.wrap ((mid : Int) + m) = (nn : Int) := by rw [IntKind.wrap_i64]; omega
  obtain ⟨p, hp⟩ : ∃ p, p + 1 = nn := ⟨nn - 1, by omega⟩
  have hw8 : IntKind.i64.wrap ((nn : Int) - 1) = (p : Int) := by rw [IntKind.wrap_i64]; omega
  have hw9 : IntKind.i64.wrap ((nn : Int) - b) = (nn : Int) - b := by rw [IntKind.wrap_i64]; omega
  have Hw := Lib.hid (And.intro hw1 hw2)
  have HE := Lib.hid (And.intro hme (And.intro hbe (And.intro hmid (And.intro hnn (And.intro hM (And.intro hp (And.intro hA (And.intro hB hMd))))))))
  clear hrow hc hT hk ha hα hβ hnl IH hN hs0 hme hbe hmid hnn hM hp hA hB hMd
  by_cases hmm : mid < m
  · have hmmi : (mid : Int) < m := by omega
    go_enter Tryz.func168, Tryz.ntmps168
    go_wp2
    go_loopw [20, 21] (fun vi vj wr => ∃ i j : Nat, vi = .int .i64 ((a + i : Nat) : Int) ∧ vj = .int .i64 ((a + j : Nat) : Int) ∧ M - β ≤ i ∧ i ≤ j ∧ j ≤ min M α ∧ Hid (∃ q, wr = w.drewN q) ∧ Hid (SS key A B M (M - β) (min M α) i j)) (fun vi vj _ => (intOf vj).toNat - (intOf vi).toNat)
    case atStart =>
      obtain ⟨hme, hbe, hmid, hnn, hM, hp, hA, hB, hMd⟩ := HE.out
      refine ⟨M - β, M, by congr 1; omega, by rw [hmid], by omega, by omega, by omega, Lib.hid ⟨0, rfl⟩, Lib.hid ⟨by omega, by omega, by omega, fun c h1 h2 => by omega, fun c h1 h2 => by omega⟩⟩
    case round =>
      obtain ⟨i, j, rfl, rfl, hlo, hij, hhi, hq, hI⟩ := hrel
      rcases Nat.lt_or_ge i j with hlt | hge
      · as_aux_lemma =>
          obtain ⟨hme, hbe, hmid, hnn, hM, hp, hA, hB, hMd⟩ := HE.out
          obtain ⟨ha, hα, hβ⟩ := Hl.out
          obtain ⟨cc, hcc⟩ : ∃ cc, cc = (i + j) / 2 := ⟨_, rfl⟩
          have hic : i ≤ cc ∧ cc < j := by omega
          have hdA : cc < A.length := by omega
          have hdB : M - 1 - cc < B.length := by omega
          obtain ⟨I, hIe⟩ : ∃ I, I = a + i := ⟨_, rfl⟩
          obtain ⟨J, hJe⟩ : ∃ J, J = a + j := ⟨_, rfl⟩
          obtain ⟨C, hCe⟩ : ∃ C, C = a + cc := ⟨_, rfl⟩
          obtain ⟨S, hSe⟩ : ∃ S, S = I + J := ⟨_, rfl⟩
          obtain ⟨D, hDe⟩ : ∃ D, D = a + α + (M - 1 - cc) := ⟨_, rfl⟩
          rw [← hIe, ← hJe]
          have hkw : Keep [g] w wr := by
            obtain ⟨q, rfl⟩ := hq.out
            exact (Keep.refl [g] w).drewN q
          have Hq2 : Hid (∀ k, ∃ q, wr.drewN k = w.drewN q) := by
            obtain ⟨q, rfl⟩ := hq.out
            exact Lib.hid (fun k => ⟨_, World.drewN_drewN _ _ _⟩)
          have c1 : wr.cell? ⟨g, C, none⟩ = some (.int .i64 (A.getD cc 0 : Nat)) := by
            obtain ⟨q, rfl⟩ := hq.out
            show w.cell? _ = _
            have := (row_at Hrow.out (at_A (P := P) (A := A) (B := B) (R := R) hdA)).1
            rwa [show P.length + cc = C by omega] at this
          have c2 : wr.cell? ⟨g, D, none⟩ = some (.int .i64 (B.getD (M - 1 - cc) 0 : Nat)) := by
            obtain ⟨q, rfl⟩ := hq.out
            show w.cell? _ = _
            have := (row_at Hrow.out (at_B (P := P) (A := A) (B := B) (R := R) hdB)).1
            rwa [show P.length + A.length + (M - 1 - cc) = D by omega] at this
          have hxm : A.getD cc 0 < m0 := HT.out.lt _ (List.mem_append_left _ (getD_mem hdA))
          have hym : B.getD (M - 1 - cc) 0 < m0 := HT.out.lt _ (List.mem_append_right _ (getD_mem hdB))
          have hxy : A.getD cc 0 < B.getD (M - 1 - cc) 0 := HT.out.ab _ (getD_mem hdA) _ (getD_mem hdB)
          have hlex := lex_late (key := key) hxy
          have Hup : Hid (¬ lexlt key (B.getD (M - 1 - cc) 0) (A.getD cc 0) → SS key A B M (M - β) (min M α) (cc + 1) j) := Lib.hid (fun h => hI.out.up HT.out.sa HT.out.sb (by omega) (by omega) hic.1 hic.2 h)
          have Hdn : Hid (lexlt key (B.getD (M - 1 - cc) 0) (A.getD cc 0) → SS key A B M (M - β) (min M α) i cc) := Lib.hid (fun h => hI.out.down HT.out.sa HT.out.sb (by omega) (by omega) hic.1 hic.2 h)
          generalize A.getD cc 0 = x at *
          generalize B.getD (M - 1 - cc) 0 = y at *
          have hky := Hk.out y hym
          have hkx := Hk.out x hxm
          have hcm : ∀ k2, Calls Tryz.prog 157 #[.int .i64 (y : Nat), .int .i64 (x : Nat), .pointer (some ⟨bx, 0, none⟩)] (wr.drewN k2) fun e w' => e = .returned (.int .i64 (key y - key x)) ∧ ∃ k, w' = (wr.drewN k2).drewN k := fun k2 => Hc.out _ (hkw.drewN k2) y x hym hxm
          have Hcm := Lib.hid hcm
          have hws : IntKind.i64.wrap ((I : Int) + J) = (S : Int) := by rw [IntKind.wrap_i64]; omega
          have hwu : IntKind.u64.wrap (S : Int) = (S : Int) := by rw [IntKind.wrap_u64]; omega
          have hsh := half_cast S C (by omega)
          have hwh : IntKind.i64.wrap (C : Int) = (C : Int) := by rw [IntKind.wrap_i64]; omega
          have hwh1 : IntKind.i64.wrap ((C : Int) + 1) = (C : Int) + 1 := by rw [IntKind.wrap_i64]; omega
          have hwD : IntKind.i64.wrap ((p : Int) - C) = (D : Int) := by rw [IntKind.wrap_i64]; omega
          have hCn : (C : Int) < n := by omega
          have hDn : (D : Int) < n := by omega
          have hlti : (I : Int) < J := by omega
          have Hlex := Lib.hid hlex
          obtain ⟨kx, hkxd⟩ : ∃ kx, kx = key x := ⟨_, rfl⟩
          obtain ⟨ky, hkyd⟩ : ∃ ky, ky = key y := ⟨_, rfl⟩
          rw [← hkxd, ← hkyd] at Hcm Hlex
          have Hhh := Lib.hid (And.intro (And.intro hic (And.intro hIe hJe)) (And.intro hCe (And.intro hlo hhi)))
          have hkd : -200 ≤ ky - kx ∧ ky - kx ≤ 200 := by omega
          clear hI hme hbe hmid hnn hM hp hA hB hMd ha hα hβ hcc hic hdA hdB hIe hJe hCe hSe hDe hq hkw hxm hym hxy hlex hky hkx hcm hkxd hkyd hlo hij hhi hlt Hrow HT Hk Hbh HE Hl hmm hw1 hw1n hw2 hw2n hw3 hw4 hw5 hw6 hw7 hw8 hw9 hbn
          by_cases hlt2 : ky - kx < 0
          · have dlt : decide (ky - kx < 0) = true := by simpa using hlt2
            have HS := Lib.hid (Hdn.out (Hlex.out.2 (by omega)))
            clear Hup Hdn
            go_wp2_with fail
            go_quiet ((go_at_call 157; exact Calls.quiet_of (Hcm.out _)))
            go_wp2_with fail
            obtain ⟨⟨hic, hIe, hJe⟩, hCe, hlo, hhi⟩ := Hhh.out
            exact ⟨⟨i, cc, by rw [hIe], by rw [hCe], hlo, by omega, by omega, Lib.hid (Hq2.out _), HS⟩, by simp [intOf]; omega⟩
          · have dlt : decide (ky - kx < 0) = false := by simpa using hlt2
            have HS := Lib.hid (Hup.out (fun h => hlt2 (by have := Hlex.out.1 h; omega)))
            clear Hup Hdn
            go_wp2_with fail
            go_quiet ((go_at_call 157; exact Calls.quiet_of (Hcm.out _)))
            go_wp2_with fail
            obtain ⟨⟨hic, hIe, hJe⟩, hCe, hlo, hhi⟩ := Hhh.out
            exact ⟨⟨cc + 1, j, by congr 1; omega, by rw [hJe], by omega, by omega, hhi, Lib.hid (Hq2.out _), HS⟩, by simp [intOf]; omega⟩
      · obtain rfl : i = j := by omega
        obtain ⟨s, hs⟩ : ∃ s, s = i := ⟨_, rfl⟩
        subst hs
        obtain ⟨hme, hbe, hmid, hnn, hM, hp, hA, hB, hMd⟩ := HE.out
        have hs1 : s ≤ M ∧ s ≤ α ∧ M ≤ s + β := by omega
        have hss := hI
        obtain ⟨en, hen⟩ : ∃ en, en = a + M + (α - s) := ⟨_, rfl⟩
        obtain ⟨st, hst⟩ : ∃ st, st = a + s := ⟨_, rfl⟩
        obtain ⟨D1, D2, hBe⟩ := Hbh.out wr s hI.out (by
          obtain ⟨q, rfl⟩ := hq.out
          exact ⟨ownsRow_keep Hrow.out ((Keep.refl [] w).drewN q) (by simp), (Keep.refl [g] w).drewN q⟩)
        have HBe := Lib.hid (hBe m b mid st en hme hbe hmid hst hen)
        rw [← hst]
        clear hBe hI hq hw1 hw2 hw3 hw4 hw5 hw6 hw7 hw8 hw9 hw1n hw2n hlo hhi hij hge hp Hbh Hw hmmi hM HE
        rcases Nat.eq_zero_or_pos s with hp1 | hp1
        · rcases Nat.lt_or_ge s α with hp2 | hp2
          · rcases Nat.eq_zero_or_pos (M - s) with hp3 | hp3
            · rcases Nat.lt_or_ge (M - s) β with hp4 | hp4
              · first | (exfalso; omega) | as_aux_lemma =>
                  have f1 :  (st : Int) < (m : Int) := by omega
                  have f2 : ¬ (m : Int) < (en : Int) := by omega
                  have f3 : ¬ (a : Int) < (st : Int) := by omega
                  have f4 : ¬ (st : Int) < (mid : Int) := by omega
                  have f5 :  (mid : Int) < (en : Int) := by omega
                  have f6 :  (en : Int) < (b : Int) := by omega
                  have hE : IntKind.i64.wrap ((nn : Int) - (st : Int)) = (en : Int) := by rw [IntKind.wrap_i64]; omega
                  have q := Lib.hid (And.intro (show s = 0 by omega) (And.intro (show ¬ s = α by omega) (And.intro (show M = s by omega) (show ¬ M = s + β by omega))))
                  have G1 := Lib.hid (HBe.out.n1 (.inr q.out.2.2.1))
                  have G2 := Lib.hid (HBe.out.n2 _ G1.out (.inl q.out.1))
                  clear hen hst hmid hme hbe hs1 hbn hss hMd hnn hp1 hp2 hp3 hp4 hA hB
                  go_wp2_with (first | (go_at_call 168; refine (HBe.out.c3 _ G2.out q.out.2.1 q.out.2.2.2).mono ?_; rintro e w3 ⟨rfl, hS⟩; have G3 := Lib.hid hS; clear hS))
                  refine bodyPost_end (results_none rfl _ _ _) rfl ?_
                  exact ⟨rfl, by simpa using G3.out⟩
              · exfalso; omega
            · rcases Nat.lt_or_ge (M - s) β with hp4 | hp4
              · first | (exfalso; omega) | as_aux_lemma =>
                  have f1 :  (st : Int) < (m : Int) := by omega
                  have f2 :  (m : Int) < (en : Int) := by omega
                  have f3 : ¬ (a : Int) < (st : Int) := by omega
                  have f4 :  (st : Int) < (mid : Int) := by omega
                  have f5 :  (mid : Int) < (en : Int) := by omega
                  have f6 :  (en : Int) < (b : Int) := by omega
                  have hE : IntKind.i64.wrap ((nn : Int) - (st : Int)) = (en : Int) := by rw [IntKind.wrap_i64]; omega
                  have q := Lib.hid (And.intro (show s = 0 by omega) (And.intro (show ¬ s = α by omega) (And.intro (show ¬ M = s by omega) (show ¬ M = s + β by omega))))
                  clear hen hst hmid hme hbe hs1 hbn hss hMd hnn hp1 hp2 hp3 hp4 hA hB
                  go_wp2_with (first | (go_at_call 169; refine (HBe.out.c1 q.out.2.1 q.out.2.2.1).mono ?_; rintro e w1 ⟨rfl, hS⟩; have G1 := Lib.hid hS; clear hS; have G2 := Lib.hid (HBe.out.n2 _ G1.out (.inl q.out.1))) | (go_at_call 168; refine (HBe.out.c3 _ G2.out q.out.2.1 q.out.2.2.2).mono ?_; rintro e w3 ⟨rfl, hS⟩; have G3 := Lib.hid hS; clear hS))
                  refine bodyPost_end (results_none rfl _ _ _) rfl ?_
                  exact ⟨rfl, by simpa using G3.out⟩
              · first | (exfalso; omega) | as_aux_lemma =>
                  have f1 :  (st : Int) < (m : Int) := by omega
                  have f2 :  (m : Int) < (en : Int) := by omega
                  have f3 : ¬ (a : Int) < (st : Int) := by omega
                  have f4 :  (st : Int) < (mid : Int) := by omega
                  have f5 :  (mid : Int) < (en : Int) := by omega
                  have f6 : ¬ (en : Int) < (b : Int) := by omega
                  have hE : IntKind.i64.wrap ((nn : Int) - (st : Int)) = (en : Int) := by rw [IntKind.wrap_i64]; omega
                  have q := Lib.hid (And.intro (show s = 0 by omega) (And.intro (show ¬ s = α by omega) (And.intro (show ¬ M = s by omega) (show M = s + β by omega))))
                  clear hen hst hmid hme hbe hs1 hbn hss hMd hnn hp1 hp2 hp3 hp4 hA hB
                  go_wp2_with (first | (go_at_call 169; refine (HBe.out.c1 q.out.2.1 q.out.2.2.1).mono ?_; rintro e w1 ⟨rfl, hS⟩; have G1 := Lib.hid hS; clear hS; have G2 := Lib.hid (HBe.out.n2 _ G1.out (.inl q.out.1)); have G3 := Lib.hid (HBe.out.n3 _ G2.out (.inr q.out.2.2.2))))
                  refine bodyPost_end (results_none rfl _ _ _) rfl ?_
                  exact ⟨rfl, by simpa using G3.out⟩
          · rcases Nat.eq_zero_or_pos (M - s) with hp3 | hp3
            · rcases Nat.lt_or_ge (M - s) β with hp4 | hp4
              · exfalso; omega
              · exfalso; omega
            · rcases Nat.lt_or_ge (M - s) β with hp4 | hp4
              · exfalso; omega
              · exfalso; omega
        · rcases Nat.lt_or_ge s α with hp2 | hp2
          · rcases Nat.eq_zero_or_pos (M - s) with hp3 | hp3
            · rcases Nat.lt_or_ge (M - s) β with hp4 | hp4
              · first | (exfalso; omega) | as_aux_lemma =>
                  have f1 :  (st : Int) < (m : Int) := by omega
                  have f2 : ¬ (m : Int) < (en : Int) := by omega
                  have f3 :  (a : Int) < (st : Int) := by omega
                  have f4 : ¬ (st : Int) < (mid : Int) := by omega
                  have f5 :  (mid : Int) < (en : Int) := by omega
                  have f6 :  (en : Int) < (b : Int) := by omega
                  have hE : IntKind.i64.wrap ((nn : Int) - (st : Int)) = (en : Int) := by rw [IntKind.wrap_i64]; omega
                  have q := Lib.hid (And.intro (show ¬ s = 0 by omega) (And.intro (show ¬ s = α by omega) (And.intro (show M = s by omega) (show ¬ M = s + β by omega))))
                  have G1 := Lib.hid (HBe.out.n1 (.inr q.out.2.2.1))
                  have G2 := Lib.hid (HBe.out.n2 _ G1.out (.inr q.out.2.2.1))
                  clear hen hst hmid hme hbe hs1 hbn hss hMd hnn hp1 hp2 hp3 hp4 hA hB
                  go_wp2_with (first | (go_at_call 168; refine (HBe.out.c3 _ G2.out q.out.2.1 q.out.2.2.2).mono ?_; rintro e w3 ⟨rfl, hS⟩; have G3 := Lib.hid hS; clear hS))
                  refine bodyPost_end (results_none rfl _ _ _) rfl ?_
                  exact ⟨rfl, by simpa using G3.out⟩
              · exfalso; omega
            · rcases Nat.lt_or_ge (M - s) β with hp4 | hp4
              · first | (exfalso; omega) | as_aux_lemma =>
                  have f1 :  (st : Int) < (m : Int) := by omega
                  have f2 :  (m : Int) < (en : Int) := by omega
                  have f3 :  (a : Int) < (st : Int) := by omega
                  have f4 :  (st : Int) < (mid : Int) := by omega
                  have f5 :  (mid : Int) < (en : Int) := by omega
                  have f6 :  (en : Int) < (b : Int) := by omega
                  have hE : IntKind.i64.wrap ((nn : Int) - (st : Int)) = (en : Int) := by rw [IntKind.wrap_i64]; omega
                  have q := Lib.hid (And.intro (show ¬ s = 0 by omega) (And.intro (show ¬ s = α by omega) (And.intro (show ¬ M = s by omega) (show ¬ M = s + β by omega))))
                  have TK : True := trivial
                  clear hen hst hmid hme hbe hs1 hbn hss hMd hnn hp1 hp2 hp3 hp4 hA hB
                  go_wp2_with (first | (go_at_call 169; refine (HBe.out.c1 q.out.2.1 q.out.2.2.1).mono ?_; rintro e w1 ⟨rfl, hS⟩; have G1 := Lib.hid hS; clear hS) | (go_at_call 168; clear TK; refine (HBe.out.c2 _ G1.out q.out.1 q.out.2.2.1).mono ?_; rintro e w2 ⟨rfl, hS⟩; have G2 := Lib.hid hS; clear hS) | (go_at_call 168; refine (HBe.out.c3 _ G2.out q.out.2.1 q.out.2.2.2).mono ?_; rintro e w3 ⟨rfl, hS⟩; have G3 := Lib.hid hS; clear hS))
                  refine bodyPost_end (results_none rfl _ _ _) rfl ?_
                  exact ⟨rfl, by simpa using G3.out⟩
              · first | (exfalso; omega) | as_aux_lemma =>
                  have f1 :  (st : Int) < (m : Int) := by omega
                  have f2 :  (m : Int) < (en : Int) := by omega
                  have f3 :  (a : Int) < (st : Int) := by omega
                  have f4 :  (st : Int) < (mid : Int) := by omega
                  have f5 :  (mid : Int) < (en : Int) := by omega
                  have f6 : ¬ (en : Int) < (b : Int) := by omega
                  have hE : IntKind.i64.wrap ((nn : Int) - (st : Int)) = (en : Int) := by rw [IntKind.wrap_i64]; omega
                  have q := Lib.hid (And.intro (show ¬ s = 0 by omega) (And.intro (show ¬ s = α by omega) (And.intro (show ¬ M = s by omega) (show M = s + β by omega))))
                  have TK : True := trivial
                  clear hen hst hmid hme hbe hs1 hbn hss hMd hnn hp1 hp2 hp3 hp4 hA hB
                  go_wp2_with (first | (go_at_call 169; refine (HBe.out.c1 q.out.2.1 q.out.2.2.1).mono ?_; rintro e w1 ⟨rfl, hS⟩; have G1 := Lib.hid hS; clear hS) | (go_at_call 168; clear TK; refine (HBe.out.c2 _ G1.out q.out.1 q.out.2.2.1).mono ?_; rintro e w2 ⟨rfl, hS⟩; have G2 := Lib.hid hS; clear hS; have G3 := Lib.hid (HBe.out.n3 _ G2.out (.inr q.out.2.2.2))))
                  refine bodyPost_end (results_none rfl _ _ _) rfl ?_
                  exact ⟨rfl, by simpa using G3.out⟩
          · rcases Nat.eq_zero_or_pos (M - s) with hp3 | hp3
            · rcases Nat.lt_or_ge (M - s) β with hp4 | hp4
              · first | (exfalso; omega) | as_aux_lemma =>
                  have f1 : ¬ (st : Int) < (m : Int) := by omega
                  have f2 : ¬ (m : Int) < (en : Int) := by omega
                  have f3 :  (a : Int) < (st : Int) := by omega
                  have f4 : ¬ (st : Int) < (mid : Int) := by omega
                  have f5 : ¬ (mid : Int) < (en : Int) := by omega
                  have f6 :  (en : Int) < (b : Int) := by omega
                  have hE : IntKind.i64.wrap ((nn : Int) - (st : Int)) = (en : Int) := by rw [IntKind.wrap_i64]; omega
                  have q := Lib.hid (And.intro (show ¬ s = 0 by omega) (And.intro (show s = α by omega) (And.intro (show M = s by omega) (show ¬ M = s + β by omega))))
                  have G1 := Lib.hid (HBe.out.n1 (.inl q.out.2.1))
                  have G2 := Lib.hid (HBe.out.n2 _ G1.out (.inr q.out.2.2.1))
                  have G3 := Lib.hid (HBe.out.n3 _ G2.out (.inl q.out.2.1))
                  clear hen hst hmid hme hbe hs1 hbn hss hMd hnn hp1 hp2 hp3 hp4 hA hB
                  go_wp2_with fail
                  refine bodyPost_end (results_none rfl _ _ _) rfl ?_
                  exact ⟨rfl, by simpa using G3.out⟩
              · exfalso; omega
            · rcases Nat.lt_or_ge (M - s) β with hp4 | hp4
              · first | (exfalso; omega) | as_aux_lemma =>
                  have f1 : ¬ (st : Int) < (m : Int) := by omega
                  have f2 :  (m : Int) < (en : Int) := by omega
                  have f3 :  (a : Int) < (st : Int) := by omega
                  have f4 :  (st : Int) < (mid : Int) := by omega
                  have f5 : ¬ (mid : Int) < (en : Int) := by omega
                  have f6 :  (en : Int) < (b : Int) := by omega
                  have hE : IntKind.i64.wrap ((nn : Int) - (st : Int)) = (en : Int) := by rw [IntKind.wrap_i64]; omega
                  have q := Lib.hid (And.intro (show ¬ s = 0 by omega) (And.intro (show s = α by omega) (And.intro (show ¬ M = s by omega) (show ¬ M = s + β by omega))))
                  have G1 := Lib.hid (HBe.out.n1 (.inl q.out.2.1))
                  have TK : True := trivial
                  clear hen hst hmid hme hbe hs1 hbn hss hMd hnn hp1 hp2 hp3 hp4 hA hB
                  go_wp2_with (first | (go_at_call 168; clear TK; refine (HBe.out.c2 _ G1.out q.out.1 q.out.2.2.1).mono ?_; rintro e w2 ⟨rfl, hS⟩; have G2 := Lib.hid hS; clear hS; have G3 := Lib.hid (HBe.out.n3 _ G2.out (.inl q.out.2.1))))
                  refine bodyPost_end (results_none rfl _ _ _) rfl ?_
                  exact ⟨rfl, by simpa using G3.out⟩
              · first | (exfalso; omega) | as_aux_lemma =>
                  have f1 : ¬ (st : Int) < (m : Int) := by omega
                  have f2 :  (m : Int) < (en : Int) := by omega
                  have f3 :  (a : Int) < (st : Int) := by omega
                  have f4 :  (st : Int) < (mid : Int) := by omega
                  have f5 : ¬ (mid : Int) < (en : Int) := by omega
                  have f6 : ¬ (en : Int) < (b : Int) := by omega
                  have hE : IntKind.i64.wrap ((nn : Int) - (st : Int)) = (en : Int) := by rw [IntKind.wrap_i64]; omega
                  have q := Lib.hid (And.intro (show ¬ s = 0 by omega) (And.intro (show s = α by omega) (And.intro (show ¬ M = s by omega) (show M = s + β by omega))))
                  have G1 := Lib.hid (HBe.out.n1 (.inl q.out.2.1))
                  have TK : True := trivial
                  clear hen hst hmid hme hbe hs1 hbn hss hMd hnn hp1 hp2 hp3 hp4 hA hB
                  go_wp2_with (first | (go_at_call 168; clear TK; refine (HBe.out.c2 _ G1.out q.out.1 q.out.2.2.1).mono ?_; rintro e w2 ⟨rfl, hS⟩; have G2 := Lib.hid hS; clear hS; have G3 := Lib.hid (HBe.out.n3 _ G2.out (.inl q.out.2.1))))
                  refine bodyPost_end (results_none rfl _ _ _) rfl ?_
                  exact ⟨rfl, by simpa using G3.out⟩
  · have hmmi : ¬ (mid : Int) < m := by omega
    go_enter Tryz.func168, Tryz.ntmps168
    go_wp2
    go_loopw [20, 21] (fun vi vj wr => ∃ i j : Nat, vi = .int .i64 ((a + i : Nat) : Int) ∧ vj = .int .i64 ((a + j : Nat) : Int) ∧ M - β ≤ i ∧ i ≤ j ∧ j ≤ min M α ∧ Hid (∃ q, wr = w.drewN q) ∧ Hid (SS key A B M (M - β) (min M α) i j)) (fun vi vj _ => (intOf vj).toNat - (intOf vi).toNat)
    case atStart =>
      obtain ⟨hme, hbe, hmid, hnn, hM, hp, hA, hB, hMd⟩ := HE.out
      refine ⟨M - β, α, by congr 1; omega, by rw [hme], by omega, by omega, by omega, Lib.hid ⟨0, rfl⟩, Lib.hid ⟨by omega, by omega, by omega, fun c h1 h2 => by omega, fun c h1 h2 => by omega⟩⟩
    case round =>
      obtain ⟨i, j, rfl, rfl, hlo, hij, hhi, hq, hI⟩ := hrel
      rcases Nat.lt_or_ge i j with hlt | hge
      · as_aux_lemma =>
          obtain ⟨hme, hbe, hmid, hnn, hM, hp, hA, hB, hMd⟩ := HE.out
          obtain ⟨ha, hα, hβ⟩ := Hl.out
          obtain ⟨cc, hcc⟩ : ∃ cc, cc = (i + j) / 2 := ⟨_, rfl⟩
          have hic : i ≤ cc ∧ cc < j := by omega
          have hdA : cc < A.length := by omega
          have hdB : M - 1 - cc < B.length := by omega
          obtain ⟨I, hIe⟩ : ∃ I, I = a + i := ⟨_, rfl⟩
          obtain ⟨J, hJe⟩ : ∃ J, J = a + j := ⟨_, rfl⟩
          obtain ⟨C, hCe⟩ : ∃ C, C = a + cc := ⟨_, rfl⟩
          obtain ⟨S, hSe⟩ : ∃ S, S = I + J := ⟨_, rfl⟩
          obtain ⟨D, hDe⟩ : ∃ D, D = a + α + (M - 1 - cc) := ⟨_, rfl⟩
          rw [← hIe, ← hJe]
          have hkw : Keep [g] w wr := by
            obtain ⟨q, rfl⟩ := hq.out
            exact (Keep.refl [g] w).drewN q
          have Hq2 : Hid (∀ k, ∃ q, wr.drewN k = w.drewN q) := by
            obtain ⟨q, rfl⟩ := hq.out
            exact Lib.hid (fun k => ⟨_, World.drewN_drewN _ _ _⟩)
          have c1 : wr.cell? ⟨g, C, none⟩ = some (.int .i64 (A.getD cc 0 : Nat)) := by
            obtain ⟨q, rfl⟩ := hq.out
            show w.cell? _ = _
            have := (row_at Hrow.out (at_A (P := P) (A := A) (B := B) (R := R) hdA)).1
            rwa [show P.length + cc = C by omega] at this
          have c2 : wr.cell? ⟨g, D, none⟩ = some (.int .i64 (B.getD (M - 1 - cc) 0 : Nat)) := by
            obtain ⟨q, rfl⟩ := hq.out
            show w.cell? _ = _
            have := (row_at Hrow.out (at_B (P := P) (A := A) (B := B) (R := R) hdB)).1
            rwa [show P.length + A.length + (M - 1 - cc) = D by omega] at this
          have hxm : A.getD cc 0 < m0 := HT.out.lt _ (List.mem_append_left _ (getD_mem hdA))
          have hym : B.getD (M - 1 - cc) 0 < m0 := HT.out.lt _ (List.mem_append_right _ (getD_mem hdB))
          have hxy : A.getD cc 0 < B.getD (M - 1 - cc) 0 := HT.out.ab _ (getD_mem hdA) _ (getD_mem hdB)
          have hlex := lex_late (key := key) hxy
          have Hup : Hid (¬ lexlt key (B.getD (M - 1 - cc) 0) (A.getD cc 0) → SS key A B M (M - β) (min M α) (cc + 1) j) := Lib.hid (fun h => hI.out.up HT.out.sa HT.out.sb (by omega) (by omega) hic.1 hic.2 h)
          have Hdn : Hid (lexlt key (B.getD (M - 1 - cc) 0) (A.getD cc 0) → SS key A B M (M - β) (min M α) i cc) := Lib.hid (fun h => hI.out.down HT.out.sa HT.out.sb (by omega) (by omega) hic.1 hic.2 h)
          generalize A.getD cc 0 = x at *
          generalize B.getD (M - 1 - cc) 0 = y at *
          have hky := Hk.out y hym
          have hkx := Hk.out x hxm
          have hcm : ∀ k2, Calls Tryz.prog 157 #[.int .i64 (y : Nat), .int .i64 (x : Nat), .pointer (some ⟨bx, 0, none⟩)] (wr.drewN k2) fun e w' => e = .returned (.int .i64 (key y - key x)) ∧ ∃ k, w' = (wr.drewN k2).drewN k := fun k2 => Hc.out _ (hkw.drewN k2) y x hym hxm
          have Hcm := Lib.hid hcm
          have hws : IntKind.i64.wrap ((I : Int) + J) = (S : Int) := by rw [IntKind.wrap_i64]; omega
          have hwu : IntKind.u64.wrap (S : Int) = (S : Int) := by rw [IntKind.wrap_u64]; omega
          have hsh := half_cast S C (by omega)
          have hwh : IntKind.i64.wrap (C : Int) = (C : Int) := by rw [IntKind.wrap_i64]; omega
          have hwh1 : IntKind.i64.wrap ((C : Int) + 1) = (C : Int) + 1 := by rw [IntKind.wrap_i64]; omega
          have hwD : IntKind.i64.wrap ((p : Int) - C) = (D : Int) := by rw [IntKind.wrap_i64]; omega
          have hCn : (C : Int) < n := by omega
          have hDn : (D : Int) < n := by omega
          have hlti : (I : Int) < J := by omega
          have Hlex := Lib.hid hlex
          obtain ⟨kx, hkxd⟩ : ∃ kx, kx = key x := ⟨_, rfl⟩
          obtain ⟨ky, hkyd⟩ : ∃ ky, ky = key y := ⟨_, rfl⟩
          rw [← hkxd, ← hkyd] at Hcm Hlex
          have Hhh := Lib.hid (And.intro (And.intro hic (And.intro hIe hJe)) (And.intro hCe (And.intro hlo hhi)))
          have hkd : -200 ≤ ky - kx ∧ ky - kx ≤ 200 := by omega
          clear hI hme hbe hmid hnn hM hp hA hB hMd ha hα hβ hcc hic hdA hdB hIe hJe hCe hSe hDe hq hkw hxm hym hxy hlex hky hkx hcm hkxd hkyd hlo hij hhi hlt Hrow HT Hk Hbh HE Hl hmm hw1 hw1n hw2 hw2n hw3 hw4 hw5 hw6 hw7 hw8 hw9 hbn
          by_cases hlt2 : ky - kx < 0
          · have dlt : decide (ky - kx < 0) = true := by simpa using hlt2
            have HS := Lib.hid (Hdn.out (Hlex.out.2 (by omega)))
            clear Hup Hdn
            go_wp2_with fail
            go_quiet ((go_at_call 157; exact Calls.quiet_of (Hcm.out _)))
            go_wp2_with fail
            obtain ⟨⟨hic, hIe, hJe⟩, hCe, hlo, hhi⟩ := Hhh.out
            exact ⟨⟨i, cc, by rw [hIe], by rw [hCe], hlo, by omega, by omega, Lib.hid (Hq2.out _), HS⟩, by simp [intOf]; omega⟩
          · have dlt : decide (ky - kx < 0) = false := by simpa using hlt2
            have HS := Lib.hid (Hup.out (fun h => hlt2 (by have := Hlex.out.1 h; omega)))
            clear Hup Hdn
            go_wp2_with fail
            go_quiet ((go_at_call 157; exact Calls.quiet_of (Hcm.out _)))
            go_wp2_with fail
            obtain ⟨⟨hic, hIe, hJe⟩, hCe, hlo, hhi⟩ := Hhh.out
            exact ⟨⟨cc + 1, j, by congr 1; omega, by rw [hJe], by omega, by omega, hhi, Lib.hid (Hq2.out _), HS⟩, by simp [intOf]; omega⟩
      · obtain rfl : i = j := by omega
        obtain ⟨s, hs⟩ : ∃ s, s = i := ⟨_, rfl⟩
        subst hs
        obtain ⟨hme, hbe, hmid, hnn, hM, hp, hA, hB, hMd⟩ := HE.out
        have hs1 : s ≤ M ∧ s ≤ α ∧ M ≤ s + β := by omega
        have hss := hI
        obtain ⟨en, hen⟩ : ∃ en, en = a + M + (α - s) := ⟨_, rfl⟩
        obtain ⟨st, hst⟩ : ∃ st, st = a + s := ⟨_, rfl⟩
        obtain ⟨D1, D2, hBe⟩ := Hbh.out wr s hI.out (by
          obtain ⟨q, rfl⟩ := hq.out
          exact ⟨ownsRow_keep Hrow.out ((Keep.refl [] w).drewN q) (by simp), (Keep.refl [g] w).drewN q⟩)
        have HBe := Lib.hid (hBe m b mid st en hme hbe hmid hst hen)
        rw [← hst]
        clear hBe hI hq hw1 hw2 hw3 hw4 hw5 hw6 hw7 hw8 hw9 hw1n hw2n hlo hhi hij hge hp Hbh Hw hmmi hM HE
        rcases Nat.eq_zero_or_pos s with hp1 | hp1
        · rcases Nat.lt_or_ge s α with hp2 | hp2
          · rcases Nat.eq_zero_or_pos (M - s) with hp3 | hp3
            · rcases Nat.lt_or_ge (M - s) β with hp4 | hp4
              · first | (exfalso; omega) | as_aux_lemma =>
                  have f1 :  (st : Int) < (m : Int) := by omega
                  have f2 : ¬ (m : Int) < (en : Int) := by omega
                  have f3 : ¬ (a : Int) < (st : Int) := by omega
                  have f4 : ¬ (st : Int) < (mid : Int) := by omega
                  have f5 :  (mid : Int) < (en : Int) := by omega
                  have f6 :  (en : Int) < (b : Int) := by omega
                  have hE : IntKind.i64.wrap ((nn : Int) - (st : Int)) = (en : Int) := by rw [IntKind.wrap_i64]; omega
                  have q := Lib.hid (And.intro (show s = 0 by omega) (And.intro (show ¬ s = α by omega) (And.intro (show M = s by omega) (show ¬ M = s + β by omega))))
                  have G1 := Lib.hid (HBe.out.n1 (.inr q.out.2.2.1))
                  have G2 := Lib.hid (HBe.out.n2 _ G1.out (.inl q.out.1))
                  clear hen hst hmid hme hbe hs1 hbn hss hMd hnn hp1 hp2 hp3 hp4 hA hB
                  go_wp2_with (first | (go_at_call 168; refine (HBe.out.c3 _ G2.out q.out.2.1 q.out.2.2.2).mono ?_; rintro e w3 ⟨rfl, hS⟩; have G3 := Lib.hid hS; clear hS))
                  refine bodyPost_end (results_none rfl _ _ _) rfl ?_
                  exact ⟨rfl, by simpa using G3.out⟩
              · exfalso; omega
            · rcases Nat.lt_or_ge (M - s) β with hp4 | hp4
              · first | (exfalso; omega) | as_aux_lemma =>
                  have f1 :  (st : Int) < (m : Int) := by omega
                  have f2 :  (m : Int) < (en : Int) := by omega
                  have f3 : ¬ (a : Int) < (st : Int) := by omega
                  have f4 :  (st : Int) < (mid : Int) := by omega
                  have f5 :  (mid : Int) < (en : Int) := by omega
                  have f6 :  (en : Int) < (b : Int) := by omega
                  have hE : IntKind.i64.wrap ((nn : Int) - (st : Int)) = (en : Int) := by rw [IntKind.wrap_i64]; omega
                  have q := Lib.hid (And.intro (show s = 0 by omega) (And.intro (show ¬ s = α by omega) (And.intro (show ¬ M = s by omega) (show ¬ M = s + β by omega))))
                  clear hen hst hmid hme hbe hs1 hbn hss hMd hnn hp1 hp2 hp3 hp4 hA hB
                  go_wp2_with (first | (go_at_call 169; refine (HBe.out.c1 q.out.2.1 q.out.2.2.1).mono ?_; rintro e w1 ⟨rfl, hS⟩; have G1 := Lib.hid hS; clear hS; have G2 := Lib.hid (HBe.out.n2 _ G1.out (.inl q.out.1))) | (go_at_call 168; refine (HBe.out.c3 _ G2.out q.out.2.1 q.out.2.2.2).mono ?_; rintro e w3 ⟨rfl, hS⟩; have G3 := Lib.hid hS; clear hS))
                  refine bodyPost_end (results_none rfl _ _ _) rfl ?_
                  exact ⟨rfl, by simpa using G3.out⟩
              · first | (exfalso; omega) | as_aux_lemma =>
                  have f1 :  (st : Int) < (m : Int) := by omega
                  have f2 :  (m : Int) < (en : Int) := by omega
                  have f3 : ¬ (a : Int) < (st : Int) := by omega
                  have f4 :  (st : Int) < (mid : Int) := by omega
                  have f5 :  (mid : Int) < (en : Int) := by omega
                  have f6 : ¬ (en : Int) < (b : Int) := by omega
                  have hE : IntKind.i64.wrap ((nn : Int) - (st : Int)) = (en : Int) := by rw [IntKind.wrap_i64]; omega
                  have q := Lib.hid (And.intro (show s = 0 by omega) (And.intro (show ¬ s = α by omega) (And.intro (show ¬ M = s by omega) (show M = s + β by omega))))
                  clear hen hst hmid hme hbe hs1 hbn hss hMd hnn hp1 hp2 hp3 hp4 hA hB
                  go_wp2_with (first | (go_at_call 169; refine (HBe.out.c1 q.out.2.1 q.out.2.2.1).mono ?_; rintro e w1 ⟨rfl, hS⟩; have G1 := Lib.hid hS; clear hS; have G2 := Lib.hid (HBe.out.n2 _ G1.out (.inl q.out.1)); have G3 := Lib.hid (HBe.out.n3 _ G2.out (.inr q.out.2.2.2))))
                  refine bodyPost_end (results_none rfl _ _ _) rfl ?_
                  exact ⟨rfl, by simpa using G3.out⟩
          · rcases Nat.eq_zero_or_pos (M - s) with hp3 | hp3
            · rcases Nat.lt_or_ge (M - s) β with hp4 | hp4
              · exfalso; omega
              · exfalso; omega
            · rcases Nat.lt_or_ge (M - s) β with hp4 | hp4
              · exfalso; omega
              · exfalso; omega
        · rcases Nat.lt_or_ge s α with hp2 | hp2
          · rcases Nat.eq_zero_or_pos (M - s) with hp3 | hp3
            · rcases Nat.lt_or_ge (M - s) β with hp4 | hp4
              · first | (exfalso; omega) | as_aux_lemma =>
                  have f1 :  (st : Int) < (m : Int) := by omega
                  have f2 : ¬ (m : Int) < (en : Int) := by omega
                  have f3 :  (a : Int) < (st : Int) := by omega
                  have f4 : ¬ (st : Int) < (mid : Int) := by omega
                  have f5 :  (mid : Int) < (en : Int) := by omega
                  have f6 :  (en : Int) < (b : Int) := by omega
                  have hE : IntKind.i64.wrap ((nn : Int) - (st : Int)) = (en : Int) := by rw [IntKind.wrap_i64]; omega
                  have q := Lib.hid (And.intro (show ¬ s = 0 by omega) (And.intro (show ¬ s = α by omega) (And.intro (show M = s by omega) (show ¬ M = s + β by omega))))
                  have G1 := Lib.hid (HBe.out.n1 (.inr q.out.2.2.1))
                  have G2 := Lib.hid (HBe.out.n2 _ G1.out (.inr q.out.2.2.1))
                  clear hen hst hmid hme hbe hs1 hbn hss hMd hnn hp1 hp2 hp3 hp4 hA hB
                  go_wp2_with (first | (go_at_call 168; refine (HBe.out.c3 _ G2.out q.out.2.1 q.out.2.2.2).mono ?_; rintro e w3 ⟨rfl, hS⟩; have G3 := Lib.hid hS; clear hS))
                  refine bodyPost_end (results_none rfl _ _ _) rfl ?_
                  exact ⟨rfl, by simpa using G3.out⟩
              · exfalso; omega
            · rcases Nat.lt_or_ge (M - s) β with hp4 | hp4
              · first | (exfalso; omega) | as_aux_lemma =>
                  have f1 :  (st : Int) < (m : Int) := by omega
                  have f2 :  (m : Int) < (en : Int) := by omega
                  have f3 :  (a : Int) < (st : Int) := by omega
                  have f4 :  (st : Int) < (mid : Int) := by omega
                  have f5 :  (mid : Int) < (en : Int) := by omega
                  have f6 :  (en : Int) < (b : Int) := by omega
                  have hE : IntKind.i64.wrap ((nn : Int) - (st : Int)) = (en : Int) := by rw [IntKind.wrap_i64]; omega
                  have q := Lib.hid (And.intro (show ¬ s = 0 by omega) (And.intro (show ¬ s = α by omega) (And.intro (show ¬ M = s by omega) (show ¬ M = s + β by omega))))
                  have TK : True := trivial
                  clear hen hst hmid hme hbe hs1 hbn hss hMd hnn hp1 hp2 hp3 hp4 hA hB
                  go_wp2_with (first | (go_at_call 169; refine (HBe.out.c1 q.out.2.1 q.out.2.2.1).mono ?_; rintro e w1 ⟨rfl, hS⟩; have G1 := Lib.hid hS; clear hS) | (go_at_call 168; clear TK; refine (HBe.out.c2 _ G1.out q.out.1 q.out.2.2.1).mono ?_; rintro e w2 ⟨rfl, hS⟩; have G2 := Lib.hid hS; clear hS) | (go_at_call 168; refine (HBe.out.c3 _ G2.out q.out.2.1 q.out.2.2.2).mono ?_; rintro e w3 ⟨rfl, hS⟩; have G3 := Lib.hid hS; clear hS))
                  refine bodyPost_end (results_none rfl _ _ _) rfl ?_
                  exact ⟨rfl, by simpa using G3.out⟩
              · first | (exfalso; omega) | as_aux_lemma =>
                  have f1 :  (st : Int) < (m : Int) := by omega
                  have f2 :  (m : Int) < (en : Int) := by omega
                  have f3 :  (a : Int) < (st : Int) := by omega
                  have f4 :  (st : Int) < (mid : Int) := by omega
                  have f5 :  (mid : Int) < (en : Int) := by omega
                  have f6 : ¬ (en : Int) < (b : Int) := by omega
                  have hE : IntKind.i64.wrap ((nn : Int) - (st : Int)) = (en : Int) := by rw [IntKind.wrap_i64]; omega
                  have q := Lib.hid (And.intro (show ¬ s = 0 by omega) (And.intro (show ¬ s = α by omega) (And.intro (show ¬ M = s by omega) (show M = s + β by omega))))
                  have TK : True := trivial
                  clear hen hst hmid hme hbe hs1 hbn hss hMd hnn hp1 hp2 hp3 hp4 hA hB
                  go_wp2_with (first | (go_at_call 169; refine (HBe.out.c1 q.out.2.1 q.out.2.2.1).mono ?_; rintro e w1 ⟨rfl, hS⟩; have G1 := Lib.hid hS; clear hS) | (go_at_call 168; clear TK; refine (HBe.out.c2 _ G1.out q.out.1 q.out.2.2.1).mono ?_; rintro e w2 ⟨rfl, hS⟩; have G2 := Lib.hid hS; clear hS; have G3 := Lib.hid (HBe.out.n3 _ G2.out (.inr q.out.2.2.2))))
                  refine bodyPost_end (results_none rfl _ _ _) rfl ?_
                  exact ⟨rfl, by simpa using G3.out⟩
          · rcases Nat.eq_zero_or_pos (M - s) with hp3 | hp3
            · rcases Nat.lt_or_ge (M - s) β with hp4 | hp4
              · first | (exfalso; omega) | as_aux_lemma =>
                  have f1 : ¬ (st : Int) < (m : Int) := by omega
                  have f2 : ¬ (m : Int) < (en : Int) := by omega
                  have f3 :  (a : Int) < (st : Int) := by omega
                  have f4 : ¬ (st : Int) < (mid : Int) := by omega
                  have f5 : ¬ (mid : Int) < (en : Int) := by omega
                  have f6 :  (en : Int) < (b : Int) := by omega
                  have hE : IntKind.i64.wrap ((nn : Int) - (st : Int)) = (en : Int) := by rw [IntKind.wrap_i64]; omega
                  have q := Lib.hid (And.intro (show ¬ s = 0 by omega) (And.intro (show s = α by omega) (And.intro (show M = s by omega) (show ¬ M = s + β by omega))))
                  have G1 := Lib.hid (HBe.out.n1 (.inl q.out.2.1))
                  have G2 := Lib.hid (HBe.out.n2 _ G1.out (.inr q.out.2.2.1))
                  have G3 := Lib.hid (HBe.out.n3 _ G2.out (.inl q.out.2.1))
                  clear hen hst hmid hme hbe hs1 hbn hss hMd hnn hp1 hp2 hp3 hp4 hA hB
                  go_wp2_with fail
                  refine bodyPost_end (results_none rfl _ _ _) rfl ?_
                  exact ⟨rfl, by simpa using G3.out⟩
              · exfalso; omega
            · rcases Nat.lt_or_ge (M - s) β with hp4 | hp4
              · first | (exfalso; omega) | as_aux_lemma =>
                  have f1 : ¬ (st : Int) < (m : Int) := by omega
                  have f2 :  (m : Int) < (en : Int) := by omega
                  have f3 :  (a : Int) < (st : Int) := by omega
                  have f4 :  (st : Int) < (mid : Int) := by omega
                  have f5 : ¬ (mid : Int) < (en : Int) := by omega
                  have f6 :  (en : Int) < (b : Int) := by omega
                  have hE : IntKind.i64.wrap ((nn : Int) - (st : Int)) = (en : Int) := by rw [IntKind.wrap_i64]; omega
                  have q := Lib.hid (And.intro (show ¬ s = 0 by omega) (And.intro (show s = α by omega) (And.intro (show ¬ M = s by omega) (show ¬ M = s + β by omega))))
                  have G1 := Lib.hid (HBe.out.n1 (.inl q.out.2.1))
                  have TK : True := trivial
                  clear hen hst hmid hme hbe hs1 hbn hss hMd hnn hp1 hp2 hp3 hp4 hA hB
                  go_wp2_with (first | (go_at_call 168; clear TK; refine (HBe.out.c2 _ G1.out q.out.1 q.out.2.2.1).mono ?_; rintro e w2 ⟨rfl, hS⟩; have G2 := Lib.hid hS; clear hS; have G3 := Lib.hid (HBe.out.n3 _ G2.out (.inl q.out.2.1))))
                  refine bodyPost_end (results_none rfl _ _ _) rfl ?_
                  exact ⟨rfl, by simpa using G3.out⟩
              · first | (exfalso; omega) | as_aux_lemma =>
                  have f1 : ¬ (st : Int) < (m : Int) := by omega
                  have f2 :  (m : Int) < (en : Int) := by omega
                  have f3 :  (a : Int) < (st : Int) := by omega
                  have f4 :  (st : Int) < (mid : Int) := by omega
                  have f5 : ¬ (mid : Int) < (en : Int) := by omega
                  have f6 : ¬ (en : Int) < (b : Int) := by omega
                  have hE : IntKind.i64.wrap ((nn : Int) - (st : Int)) = (en : Int) := by rw [IntKind.wrap_i64]; omega
                  have q := Lib.hid (And.intro (show ¬ s = 0 by omega) (And.intro (show s = α by omega) (And.intro (show ¬ M = s by omega) (show M = s + β by omega))))
                  have G1 := Lib.hid (HBe.out.n1 (.inl q.out.2.1))
                  have TK : True := trivial
                  clear hen hst hmid hme hbe hs1 hbn hss hMd hnn hp1 hp2 hp3 hp4 hA hB
                  go_wp2_with (first | (go_at_call 168; clear TK; refine (HBe.out.c2 _ G1.out q.out.1 q.out.2.2.1).mono ?_; rintro e w2 ⟨rfl, hS⟩; have G2 := Lib.hid hS; clear hS; have G3 := Lib.hid (HBe.out.n3 _ G2.out (.inl q.out.2.1))))
                  refine bodyPost_end (results_none rfl _ _ _) rfl ?_
                  exact ⟨rfl, by simpa using G3.out⟩
end Go.Proofs.YtdnaahbhfjclpaaGreatDoor

