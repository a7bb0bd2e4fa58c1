/- slices.rotateCmpFunc, walked. -/
import Derived.Test.YtknjjodkpknglaaS7
set_option linter.unusedVariables false
set_option linter.unusedSimpArgs false
namespace Go.Proofs.Ytknjjodkpknglaa
open Go.RowKit Go.Sal Go.Huf
def RoT (w : World) (base g n cap m : Nat) (T : List Nat) (p i j : Nat) (wr : World) : Prop :=
  ∃ L X Y R, L.length = p ∧ X.length = i ∧ Y.length = j ∧ p + i = m ∧ 0 < i ∧ 0 < j ∧ p + i + j ≤ n ∧ L ++ Y ++ X ++ R = T ∧ SR w base g n cap (L ++ X ++ Y ++ R) wr
theorem RoT.more {w wr : World} {base g n cap m p i j : Nat} {T : List Nat} (h : RoT w base g n cap m T p i j wr) (hn : n ≤ 1000000) (hij : j < i) (fv : Value) :
    Calls Try.prog 52 #[.slice (some ⟨g, 0, none⟩) n cap, .int .i64 (p : Nat), .int .i64 (m : Nat), .int .i64 (j : Nat), fv] wr fun e w' => e = .returned (.tuple #[]) ∧ RoT w base g n cap m T (p + j) (i - j) j w' := by
  obtain ⟨L, X, Y, R, rfl, rfl, rfl, hm, hi, hj, hpn, hT, hrow, hk⟩ := h
  have hx : X = X.take Y.length ++ X.drop Y.length := (List.take_append_drop _ _).symm
  have hl : (X.take Y.length).length = Y.length := by rw [List.length_take]; omega
  have hl2 : (X.drop Y.length).length = X.length - Y.length := by rw [List.length_drop]
  generalize X.take Y.length = U at *
  generalize X.drop Y.length = V at *
  subst hx
  have h2 := swap_any base g n cap L U V Y R wr fv (by simpa using hrow) hl hn
  rw [show L.length + U.length + V.length = m by simp at hm; omega, hl] at h2
  refine h2.mono ?_
  rintro e w' ⟨rfl, hr, hk2⟩
  refine ⟨rfl, L ++ Y, V, U, R, by simp, by omega, hl, by simp at hm hi hij ⊢; omega, by simp at hi hij ⊢; omega, hj, by simp at hpn hij ⊢; omega, ?_, ?_, hk.trans hk2⟩
  · rw [← hT]; simp
  · simpa using hr
theorem RoT.less {w wr : World} {base g n cap m p i j : Nat} {T : List Nat} (h : RoT w base g n cap m T p i j wr) (hn : n ≤ 1000000) (hij : i < j) (fv : Value) :
    Calls Try.prog 52 #[.slice (some ⟨g, 0, none⟩) n cap, .int .i64 (p : Nat), .int .i64 ((m + j - i : Nat) : Int), .int .i64 (i : Nat), fv] wr fun e w' => e = .returned (.tuple #[]) ∧ RoT w base g n cap m T p i (j - i) w' := by
  obtain ⟨L, X, Y, R, rfl, rfl, rfl, hm, hi, hj, hpn, hT, hrow, hk⟩ := h
  have hx : Y = Y.take (Y.length - X.length) ++ Y.drop (Y.length - X.length) := (List.take_append_drop _ _).symm
  have hl : (Y.take (Y.length - X.length)).length = Y.length - X.length := by rw [List.length_take]; omega
  have hl2 : (Y.drop (Y.length - X.length)).length = X.length := by rw [List.length_drop]; omega
  generalize Y.take (Y.length - X.length) = U at *
  generalize Y.drop (Y.length - X.length) = V at *
  subst hx
  have h2 := swap_any base g n cap L X U V R wr fv (by simpa using hrow) hl2.symm hn
  rw [show L.length + X.length + U.length = m + (U ++ V).length - X.length by simp at hl ⊢; omega] at h2
  refine h2.mono ?_
  rintro e w' ⟨rfl, hr, hk2⟩
  refine ⟨rfl, L, V, U, X ++ R, rfl, hl2, hl, by omega, by omega, by omega, by simp at hpn hij ⊢; omega, ?_, ?_, hk.trans hk2⟩
  · rw [← hT]; simp
  · simpa using hr
theorem RoT.last {w wr : World} {base g n cap m p i : Nat} {T : List Nat} (h : RoT w base g n cap m T p i i wr) (hn : n ≤ 1000000) (fv : Value) :
    Calls Try.prog 52 #[.slice (some ⟨g, 0, none⟩) n cap, .int .i64 (p : Nat), .int .i64 (m : Nat), .int .i64 (i : Nat), fv] wr fun e w' => e = .returned (.tuple #[]) ∧ SR w base g n cap T w' := by
  obtain ⟨L, X, Y, R, rfl, rfl, hl, hm, hi, hj, hpn, hT, hrow, hk⟩ := h
  have h2 := swap_any base g n cap L X [] Y R wr fv (by simpa using hrow) hl.symm hn
  rw [show L.length + X.length + ([] : List Nat).length = m by simp; omega] at h2
  refine h2.mono ?_
  rintro e w' ⟨rfl, hr, hk2⟩
  refine ⟨rfl, ?_, hk.trans hk2⟩
  rw [← hT]
  simpa using hr

set_option maxRecDepth 20000 in
set_option maxHeartbeats 4000000 in
theorem rotate_any (base g n cap : Nat) (L X Y R : List Nat) (w : World) (fv : Value) (h : w.ownsRow base 3 1 (.slice (some ⟨g, 0, none⟩) n cap) n (inN (L ++ X ++ Y ++ R))) (hX : 0 < X.length) (hY : 0 < Y.length) (hn : n ≤ 1000000) :
    Calls Try.prog 51 #[.slice (some ⟨g, 0, none⟩) n cap, .int .i64 (L.length : Nat), .int .i64 ((L.length + X.length : Nat) : Int), .int .i64 ((L.length + X.length + Y.length : Nat) : Int), fv] w fun e w' =>
      e = .returned (.tuple #[]) ∧ SR w base g n cap (L ++ Y ++ X ++ R) w' := by
  have hnl := row_n h
  simp only [List.length_append] at hnl
  obtain ⟨m, hm⟩ : ∃ m, m = L.length + X.length := ⟨_, rfl⟩
  have H0 : Hid (RoT w base g n cap m (L ++ Y ++ X ++ R) L.length X.length Y.length w) := Lib.hid ⟨L, X, Y, R, rfl, rfl, rfl, hm.symm, hX, hY, by omega, rfl, h, Keep.refl _ _⟩
  generalize L ++ Y ++ X ++ R = T at *
  generalize L.length = p0 at *
  generalize X.length = i0 at *
  generalize Y.length = j0 at *
  clear h
  have hmn : p0 + i0 + j0 ≤ n := by omega
  clear hnl
  subst hm
  have hw1 : IntKind.i64.wrap (((p0 + i0 : Nat) : Int) - p0) = (i0 : Int) := by rw [IntKind.wrap_i64]; omega
  have hw2 : IntKind.i64.wrap (((p0 + i0 + j0 : Nat) : Int) - ((p0 + i0 : Nat) : Int)) = (j0 : Int) := by rw [IntKind.wrap_i64]; omega
  obtain ⟨m, hm⟩ : ∃ m, m = p0 + i0 := ⟨_, rfl⟩
  obtain ⟨b, hb⟩ : ∃ b, b = p0 + i0 + j0 := ⟨_, rfl⟩
  rw [← hb, ← hm] at hw2
  rw [← hm] at hw1 H0
  rw [← hb, ← hm]
  have hmm : m ≤ n := by omega
  clear hm hb hmn
  go_enter Try.func51, Try.ntmps51
  go_wp2
  go_loopw [10, 11] (fun vi vj wr => ∃ p i j : Nat, vi = .int .i64 i ∧ vj = .int .i64 j ∧ p + i = m ∧ 0 < i ∧ 0 < j ∧ p + i + j ≤ n ∧ Hid (RoT w base g n cap m T p i j wr)) (fun vi vj _ => (intOf vi).toNat + (intOf vj).toNat)
  case atStart =>
    obtain ⟨_, _, _, _, _, _, _, h1, h2, h3, h4, _⟩ := H0.out
    exact ⟨p0, i0, j0, rfl, rfl, h1, h2, h3, h4, H0⟩
  case round =>
    obtain ⟨p, i, j, rfl, rfl, hpi, hi, hj, hpn, hI⟩ := hrel
    clear H0 hw1 hw2
    have hwp : IntKind.i64.wrap ((m : Int) - i) = (p : Int) := by rw [IntKind.wrap_i64]; omega
    rcases Nat.lt_trichotomy i j with hij | hij | hij
    · as_aux_lemma =>
        have Hc := Lib.hid (hI.out.less hn hij fv)
        have hne : ((i : Int) != j) = true := by simpa using (by omega : (i : Int) ≠ j)
        have hgt : ¬ (j : Int) < i := by omega
        have hwm : IntKind.i64.wrap ((m : Int) + j) = ((m + j : Nat) : Int) := by rw [IntKind.wrap_i64]; omega
        have hwq : IntKind.i64.wrap (((m + j : Nat) : Int) - i) = ((m + j - i : Nat) : Int) := by rw [IntKind.wrap_i64]; omega
        have hwj : IntKind.i64.wrap ((j : Int) - i) = ((j - i : Nat) : Int) := by rw [IntKind.wrap_i64]; omega
        obtain ⟨mj, hmj⟩ : ∃ mj, mj = m + j := ⟨_, rfl⟩
        obtain ⟨mji, hmji⟩ : ∃ mji, mji = mj - i := ⟨_, rfl⟩
        obtain ⟨ji, hji⟩ : ∃ ji, ji = j - i := ⟨_, rfl⟩
        rw [← hmj] at hwm hwq Hc
        rw [← hmji] at hwq Hc
        rw [← hji] at hwj Hc
        have Hji := Lib.hid hji
        clear hI hmj hmji hji
        go_wp2_with (go_at_call 52; refine Hc.out.mono ?_; rintro e w1 ⟨rfl, hS⟩; have HS := Lib.hid hS; clear hS)
        have hji := Hji.out
        exact ⟨⟨p, i, ji, rfl, rfl, hpi, hi, by omega, by omega, HS⟩, by simp [intOf]; omega⟩
    · subst hij
      have Hc := Lib.hid (hI.out.last hn fv)
      clear hI
      go_wp2_with (go_at_call 52; refine Hc.out.mono ?_; rintro e w1 ⟨rfl, hS⟩; have HS := Lib.hid hS; clear hS)
      refine bodyPost_end (results_none rfl _ _ _) rfl ?_
      exact ⟨rfl, HS.out⟩
    · as_aux_lemma =>
        have Hc := Lib.hid (hI.out.more hn hij fv)
        have hne : ((i : Int) != j) = true := by simpa using (by omega : (i : Int) ≠ j)
        have hgt : (j : Int) < i := by omega
        have hwj : IntKind.i64.wrap ((i : Int) - j) = ((i - j : Nat) : Int) := by rw [IntKind.wrap_i64]; omega
        obtain ⟨ij, hij2⟩ : ∃ ij, ij = i - j := ⟨_, rfl⟩
        rw [← hij2] at hwj Hc
        have Hij := Lib.hid hij2
        clear hI hij2
        go_wp2_with (go_at_call 52; refine Hc.out.mono ?_; rintro e w1 ⟨rfl, hS⟩; have HS := Lib.hid hS; clear hS)
        have hij2 := Hij.out
        exact ⟨⟨p + j, ij, j, rfl, rfl, by omega, by omega, hj, by omega, HS⟩, by simp [intOf]; omega⟩
end Go.Proofs.Ytknjjodkpknglaa
