/- slices.symMergeCmpFunc: what is known behind the search. -/
import Derived.Test.YtdnaahbhfjclpaaGreatDoorS9
set_option linter.unusedVariables false
set_option linter.unusedSimpArgs false
namespace Go.Proofs.YtdnaahbhfjclpaaGreatDoor
open Go.RowKit Go.Sal Go.Huf
structure Two (key : Nat → Int) (m0 : Nat) (A B : List Nat) : Prop where
  lt : ∀ x ∈ A ++ B, x < m0
  sa : srtd key A
  sb : srtd key B
  ab : ∀ x ∈ A, ∀ y ∈ B, x < y
theorem Two.sub {key : Nat → Int} {m0 : Nat} {A B A' B' : List Nat} (h : Two key m0 A B) (ha : A'.Sublist A) (hb : B'.Sublist B) : Two key m0 A' B' :=
  ⟨fun x hx => h.lt x (by
      rcases List.mem_append.1 hx with hx | hx
      · exact List.mem_append_left _ (ha.mem hx)
      · exact List.mem_append_right _ (hb.mem hx)), h.sa.sublist ha, h.sb.sublist hb, fun x hx y hy => h.ab x (ha.mem hx) y (hb.mem hy)⟩
def SymOK (key : Nat → Int) (m0 base g n cap bx N : Nat) : Prop := ∀ (A B P R : List Nat) (w : World), A.length + B.length ≤ N → 0 < A.length → 0 < B.length →
  w.ownsRow base 3 1 (.slice (some ⟨g, 0, none⟩) n cap) n (inN (P ++ (A ++ B) ++ R)) → Cmp g w key m0 bx → Two key m0 A B →
  Calls Tryz.prog 168 #[.slice (some ⟨g, 0, none⟩) n cap, .int .i64 (P.length : Nat), .int .i64 ((P.length + A.length : Nat) : Int), .int .i64 ((P.length + A.length + B.length : Nat) : Int), .func (.func 157) #[] #[.pointer (some ⟨bx, 0, none⟩)]] w fun e w' =>
    e = .returned (.tuple #[]) ∧ SR w base g n cap (P ++ isort key (A ++ B) ++ R) w'
theorem Cmp.keep {g : Nat} {w w' : World} {key : Nat → Int} {m bx : Nat} (h : Cmp g w key m bx) (k : Keep [g] w w') : Cmp g w' key m bx := fun wr hk => h wr (k.trans hk)
structure Behind (key : Nat → Int) (base g n cap bx a m b mid st en : Nat) (s0 sα e0 eβ : Prop) (w wr : World) (D1 D2 D3 : List Nat) : Prop where
  c1 : ¬ sα → ¬ e0 → Calls Tryz.prog 169 #[.slice (some ⟨g, 0, none⟩) n cap, .int .i64 (st : Nat), .int .i64 (m : Nat), .int .i64 (en : Nat), .func (.func 157) #[] #[.pointer (some ⟨bx, 0, none⟩)]] wr fun e w' => e = .returned (.tuple #[]) ∧ SR w base g n cap D1 w'
  n1 : sα ∨ e0 → SR w base g n cap D1 wr
  c2 : ∀ w', SR w base g n cap D1 w' → ¬ s0 → ¬ e0 → Calls Tryz.prog 168 #[.slice (some ⟨g, 0, none⟩) n cap, .int .i64 (a : Nat), .int .i64 (st : Nat), .int .i64 (mid : Nat), .func (.func 157) #[] #[.pointer (some ⟨bx, 0, none⟩)]] w' fun e w'' => e = .returned (.tuple #[]) ∧ SR w base g n cap D2 w''
  n2 : ∀ w', SR w base g n cap D1 w' → s0 ∨ e0 → SR w base g n cap D2 w'
  c3 : ∀ w', SR w base g n cap D2 w' → ¬ sα → ¬ eβ → Calls Tryz.prog 168 #[.slice (some ⟨g, 0, none⟩) n cap, .int .i64 (mid : Nat), .int .i64 (en : Nat), .int .i64 (b : Nat), .func (.func 157) #[] #[.pointer (some ⟨bx, 0, none⟩)]] w' fun e w'' => e = .returned (.tuple #[]) ∧ SR w base g n cap D3 w''
  n3 : ∀ w', SR w base g n cap D2 w' → sα ∨ eβ → SR w base g n cap D3 w'
theorem behind {key : Nat → Int} {m0 base g n cap bx N : Nat} (IH : SymOK key m0 base g n cap bx N) {A B P R : List Nat} {w wr : World} (hT : Two key m0 A B) (hc : Cmp g w key m0 bx) (hn : n ≤ 1000000) (hAB : A.length + B.length = N + 1) (h2 : 2 ≤ A.length + B.length)
    {M lo hi s : Nat} (hM : M = (A.length + B.length) / 2) (hss : SS key A B M lo hi s s) (hhi : hi = min M A.length) (hlo : lo = M - B.length) (hrow : SR w base g n cap (P ++ (A ++ B) ++ R) wr) :
    ∃ D1 D2, ∀ m b mid st en : Nat, m = P.length + A.length → b = P.length + A.length + B.length → mid = P.length + M → st = P.length + s → en = P.length + M + (A.length - s) →
      Behind key base g n cap bx P.length m b mid st en (s = 0) (s = A.length) (M = s) (M = s + B.length) w wr D1 D2 (P ++ isort key (A ++ B) ++ R) := by
  have hfin := hss.done hT.sa hT.sb hT.ab hhi hlo
  have hs1 : s ≤ M ∧ s ≤ A.length ∧ M ≤ s + B.length := by have := hss.1; have := hss.2.2.1; omega
  have hA12 : A.take s ++ A.drop s = A := List.take_append_drop _ _
  have hB12 : B.take (M - s) ++ B.drop (M - s) = B := List.take_append_drop _ _
  have ha1 : (A.take s).length = s := by rw [List.length_take]; omega
  have ha2 : (A.drop s).length = A.length - s := List.length_drop
  have hb1 : (B.take (M - s)).length = M - s := by rw [List.length_take]; omega
  have hb2 : (B.drop (M - s)).length = B.length - (M - s) := List.length_drop
  have T1 := hT.sub (List.take_sublist s A) (List.take_sublist (M - s) B)
  have T2 := hT.sub (List.drop_sublist s A) (List.drop_sublist (M - s) B)
  generalize hα : A.length = α at *
  generalize hβ : B.length = β at *
  generalize A.take s = A1 at *
  generalize A.drop s = A2 at *
  generalize B.take (M - s) = B1 at *
  generalize B.drop (M - s) = B2 at *
  have hA1B1 : (A1 ++ B1).length = M := by rw [List.length_append]; omega
  have hi1 : (isort key (A1 ++ B1)).length = M := by rw [isort_len]; exact hA1B1
  obtain ⟨hro, hk⟩ := hrow
  refine ⟨P ++ (A1 ++ B1) ++ (A2 ++ B2 ++ R), P ++ isort key (A1 ++ B1) ++ (A2 ++ B2) ++ R, ?_⟩
  rintro m b mid st en rfl rfl rfl rfl rfl
  refine ⟨?_, ?_, ?_, ?_, ?_, ?_⟩
  · intro h1 h3
    rw [← hA12, ← hB12] at hro
    have := rotate_any base g n cap (P ++ A1) A2 B1 (B2 ++ R) wr (.func (.func 157) #[] #[.pointer (some ⟨bx, 0, none⟩)]) (by simpa using hro) (by omega) (by omega) hn
    rw [List.length_append, ha1, ha2, hb1, show P.length + s + (α - s) = P.length + α by omega, show P.length + α + (M - s) = P.length + M + (α - s) by omega] at this
    refine this.mono ?_
    rintro e w' ⟨rfl, hr, hk2⟩
    exact ⟨rfl, by simpa using hr, hk.trans hk2⟩
  · intro h
    refine ⟨?_, hk⟩
    rw [← hA12, ← hB12] at hro
    rcases h with h1 | h1
    · have : A2 = [] := List.eq_nil_of_length_eq_zero (by omega)
      subst this
      simpa using hro
    · have : B1 = [] := List.eq_nil_of_length_eq_zero (by omega)
      subst this
      simpa using hro
  · intro w' hs' h1 h3
    have := IH A1 B1 P (A2 ++ B2 ++ R) w' (by rw [ha1, hb1]; omega) (by omega) (by omega) hs'.1 (hc.keep hs'.2) T1
    rw [ha1, hb1, show P.length + s + (M - s) = P.length + M by omega] at this
    refine this.mono ?_
    rintro e w'' ⟨rfl, hr, hk2⟩
    exact ⟨rfl, by simpa using hr, hs'.2.trans hk2⟩
  · intro w' hs' h
    refine ⟨?_, hs'.2⟩
    have : isort key (A1 ++ B1) = A1 ++ B1 := by
      rcases h with h1 | h1
      · have : A1 = [] := List.eq_nil_of_length_eq_zero (by omega)
        subst this
        exact isort_id T1.sb
      · have : B1 = [] := List.eq_nil_of_length_eq_zero (by omega)
        subst this
        rw [List.append_nil]
        exact isort_id T1.sa
    rw [this]
    simpa using hs'.1
  · intro w' hs' h1 h3
    have := IH A2 B2 (P ++ isort key (A1 ++ B1)) R w' (by rw [ha2, hb2]; omega) (by omega) (by omega) hs'.1 (hc.keep hs'.2) T2
    rw [List.length_append, hi1, ha2, hb2, show P.length + M + (α - s) + (β - (M - s)) = P.length + α + β by omega] at this
    refine this.mono ?_
    rintro e w'' ⟨rfl, hr, hk2⟩
    refine ⟨rfl, ?_, hs'.2.trans hk2⟩
    rw [hfin]
    simpa using hr
  · intro w' hs' h
    refine ⟨?_, hs'.2⟩
    have : isort key (A2 ++ B2) = A2 ++ B2 := by
      rcases h with h1 | h1
      · have : A2 = [] := List.eq_nil_of_length_eq_zero (by omega)
        subst this
        exact isort_id T2.sb
      · have : B2 = [] := List.eq_nil_of_length_eq_zero (by omega)
        subst this
        rw [List.append_nil]
        exact isort_id T2.sa
    rw [hfin, this]
    simpa using hs'.1
end Go.Proofs.YtdnaahbhfjclpaaGreatDoor

