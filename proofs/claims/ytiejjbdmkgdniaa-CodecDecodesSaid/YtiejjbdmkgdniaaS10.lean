/- slices.symMergeCmpFunc: what is known behind the search. -/
import Derived.Test.YtiejjbdmkgdniaaS9
import Derived.Test.YtiejjbdmkgdniaaHfP
import Derived.Test.YtiejjbdmkgdniaaS1
set_option linter.unusedVariables false
set_option linter.unusedSimpArgs false
namespace Go.Proofs.Ytiejjbdmkgdniaa
open Go.RowKit Go.Sal Go.Huf
/-- what holds of two rows that stand side by side -/
structure Two (key : Nat → Int) (m0 : Nat) (A B : List Nat) : Prop where
  lt : ∀ x ∈ A ++ B, x < m0
  sa : srtd key A
  sb : srtd key B
  ab : ∀ x ∈ A, ∀ y ∈ B, x < y
theorem Two.sub {key : Nat → Int} {m0 : Nat} {A B A' B' : List Nat} (h : Two key m0 A B) (ha : A'.Sublist A) (hb : B'.Sublist B) : Two key m0 A' B' :=
  ⟨fun x hx => h.lt x (by
      rcases List.mem_append.1 hx with hx | hx
      · exact List.mem_append_left _ (ha.mem hx)
      · exact List.mem_append_right _ (hb.mem hx)), h.sa.sublist ha, h.sb.sublist hb, fun x hx y hy => h.ab x (ha.mem hx) y (hb.mem hy)⟩
/-- what a merge of two rows of together at most N does -/
def SymOK (key : Nat → Int) (m0 base g n cap bx N : Nat) : Prop := ∀ (A B P R : List Nat) (w : World), A.length + B.length ≤ N → 0 < A.length → 0 < B.length →
  w.ownsRow base 3 1 (.slice (some ⟨g, 0, none⟩) n cap) n (inN (P ++ (A ++ B) ++ R)) → Cmp g w key m0 bx → Two key m0 A B →
  Calls Try.prog 103 #[.slice (some ⟨g, 0, none⟩) n cap, .int .i64 (P.length : Nat), .int .i64 ((P.length + A.length : Nat) : Int), .int .i64 ((P.length + A.length + B.length : Nat) : Int), .func (.func 87) #[] #[.pointer (some ⟨bx, 0, none⟩)]] w fun e w' =>
    e = .returned (.tuple #[]) ∧ SR w base g n cap (P ++ isort key (A ++ B) ++ R) w'
theorem Cmp.keep {g : Nat} {w w' : World} {key : Nat → Int} {m bx : Nat} (h : Cmp g w key m bx) (k : Keep [g] w w') : Cmp g w' key m bx := fun wr hk => h wr (k.trans hk)
/-- behind the search -/
structure Behind (key : Nat → Int) (base g n cap bx a m b mid st en : Nat) (s0 sα e0 eβ : Prop) (w wr : World) (D1 D2 D3 : List Nat) : Prop where
  c1 : ¬ sα → ¬ e0 → Calls Try.prog 104 #[.slice (some ⟨g, 0, none⟩) n cap, .int .i64 (st : Nat), .int .i64 (m : Nat), .int .i64 (en : Nat), .func (.func 87) #[] #[.pointer (some ⟨bx, 0, none⟩)]] wr fun e w' => e = .returned (.tuple #[]) ∧ SR w base g n cap D1 w'
  n1 : sα ∨ e0 → SR w base g n cap D1 wr
  c2 : ∀ w', SR w base g n cap D1 w' → ¬ s0 → ¬ e0 → Calls Try.prog 103 #[.slice (some ⟨g, 0, none⟩) n cap, .int .i64 (a : Nat), .int .i64 (st : Nat), .int .i64 (mid : Nat), .func (.func 87) #[] #[.pointer (some ⟨bx, 0, none⟩)]] w' fun e w'' => e = .returned (.tuple #[]) ∧ SR w base g n cap D2 w''
  n2 : ∀ w', SR w base g n cap D1 w' → s0 ∨ e0 → SR w base g n cap D2 w'
  c3 : ∀ w', SR w base g n cap D2 w' → ¬ sα → ¬ eβ → Calls Try.prog 103 #[.slice (some ⟨g, 0, none⟩) n cap, .int .i64 (mid : Nat), .int .i64 (en : Nat), .int .i64 (b : Nat), .func (.func 87) #[] #[.pointer (some ⟨bx, 0, none⟩)]] w' fun e w'' => e = .returned (.tuple #[]) ∧ SR w base g n cap D3 w''
  n3 : ∀ w', SR w base g n cap D2 w' → sα ∨ eβ → SR w base g n cap D3 w'
theorem behind {key : Nat → Int} {m0 base g n cap bx N : Nat} (IH : SymOK key m0 base g n cap bx N) {A B P R : List Nat} {w wr : World} (hT : Two key m0 A B) (hc : Cmp g w key m0 bx) (hn : n ≤ 1000000) (hAB : A.length + B.length = N + 1) (h2 : 2 ≤ A.length + B.length)
    {M lo hi s : Nat} (hM : M = (A.length + B.length) / 2) (hss : SS key A B M lo hi s s) (hhi : hi = min M A.length) (hlo : lo = M - B.length) (hrow : SR w base g n cap (P ++ (A ++ B) ++ R) wr) :
    ∃ D1 D2, ∀ m b mid st en : Nat, m = P.length + A.length → b = P.length + A.length + B.length → mid = P.length + M → st = P.length + s → en = P.length + M + (A.length - s) →
      Behind key base g n cap bx P.length m b mid st en (s = 0) (s = A.length) (M = s) (M = s + B.length) w wr D1 D2 (P ++ isort key (A ++ B) ++ R) := by
  have hfin := hss.done hT.sa hT.sb hT.ab hhi hlo
  have hs1 : s ≤ M ∧ s ≤ A.length ∧ M ≤ s + B.length := by have := hss.1; have := hss.2.2.1; omega
  have hA12 : A.take s ++ A.drop s = A := List.take_append_drop _ _
  have hB12 : B.take (M - s) ++ B.drop (M - s) = B := List.take_append_drop _ _
  have ha1 : (A.take s).length = s := by rw [List.length_take]; omega
  have ha2 : (A.drop s).length = A.length - s := List.length_drop
  have hb1 : (B.take (M - s)).length = M - s := by rw [List.length_take]; omega
  have hb2 : (B.drop (M - s)).length = B.length - (M - s) := List.length_drop
  have T1 := hT.sub (List.take_sublist s A) (List.take_sublist (M - s) B)
  have T2 := hT.sub (List.drop_sublist s A) (List.drop_sublist (M - s) B)
  generalize hα : A.length = α at *
  generalize hβ : B.length = β at *
  generalize A.take s = A1 at *
  generalize A.drop s = A2 at *
  generalize B.take (M - s) = B1 at *
  generalize B.drop (M - s) = B2 at *
  have hA1B1 : (A1 ++ B1).length = M := by rw [List.length_append]; omega
  have hi1 : (isort key (A1 ++ B1)).length = M := by rw [isort_len]; exact hA1B1
  obtain ⟨hro, hk⟩ := hrow
  refine ⟨P ++ (A1 ++ B1) ++ (A2 ++ B2 ++ R), P ++ isort key (A1 ++ B1) ++ (A2 ++ B2) ++ R, ?_⟩
  rintro m b mid st en rfl rfl rfl rfl rfl
  refine ⟨?_, ?_, ?_, ?_, ?_, ?_⟩
  · intro h1 h3
    rw [← hA12, ← hB12] at hro
    have := rotate_any base g n cap (P ++ A1) A2 B1 (B2 ++ R) wr (.func (.func 87) #[] #[.pointer (some ⟨bx, 0, none⟩)]) (by simpa using hro) (by omega) (by omega) hn
    rw [List.length_append, ha1, ha2, hb1, show P.length + s + (α - s) = P.length + α by omega, show P.length + α + (M - s) = P.length + M + (α - s) by omega] at this
    refine this.mono ?_
    rintro e w' ⟨rfl, hr, hk2⟩
    exact ⟨rfl, by simpa using hr, hk.trans hk2⟩
  · intro h
    refine ⟨?_, hk⟩
    rw [← hA12, ← hB12] at hro
    rcases h with h1 | h1
    · have : A2 = [] := List.eq_nil_of_length_eq_zero (by omega)
      subst this
      simpa using hro
    · have : B1 = [] := List.eq_nil_of_length_eq_zero (by omega)
      subst this
      simpa using hro
  · intro w' hs' h1 h3
    have := IH A1 B1 P (A2 ++ B2 ++ R) w' (by rw [ha1, hb1]; omega) (by omega) (by omega) hs'.1 (hc.keep hs'.2) T1
    rw [ha1, hb1, show P.length + s + (M - s) = P.length + M by omega] at this
    refine this.mono ?_
    rintro e w'' ⟨rfl, hr, hk2⟩
    exact ⟨rfl, by simpa using hr, hs'.2.trans hk2⟩
  · intro w' hs' h
    refine ⟨?_, hs'.2⟩
    have : isort key (A1 ++ B1) = A1 ++ B1 := by
      rcases h with h1 | h1
      · have : A1 = [] := List.eq_nil_of_length_eq_zero (by omega)
        subst this
        exact isort_id T1.sb
      · have : B1 = [] := List.eq_nil_of_length_eq_zero (by omega)
        subst this
        rw [List.append_nil]
        exact isort_id T1.sa
    rw [this]
    simpa using hs'.1
  · intro w' hs' h1 h3
    have := IH A2 B2 (P ++ isort key (A1 ++ B1)) R w' (by rw [ha2, hb2]; omega) (by omega) (by omega) hs'.1 (hc.keep hs'.2) T2
    rw [List.length_append, hi1, ha2, hb2, show P.length + M + (α - s) + (β - (M - s)) = P.length + α + β by omega] at this
    refine this.mono ?_
    rintro e w'' ⟨rfl, hr, hk2⟩
    refine ⟨rfl, ?_, hs'.2.trans hk2⟩
    rw [hfin]
    simpa using hr
  · intro w' hs' h
    refine ⟨?_, hs'.2⟩
    have : isort key (A2 ++ B2) = A2 ++ B2 := by
      rcases h with h1 | h1
      · have : A2 = [] := List.eq_nil_of_length_eq_zero (by omega)
        subst this
        exact isort_id T2.sb
      · have : B2 = [] := List.eq_nil_of_length_eq_zero (by omega)
        subst this
        rw [List.append_nil]
        exact isort_id T2.sa
    rw [hfin, this]
    simpa using hs'.1
end Go.Proofs.Ytiejjbdmkgdniaa
set_option linter.unusedVariables false
set_option linter.unusedSimpArgs false
namespace Go.Proofs.Ytiejjbdmkgdniaa
open Go.RowKit Go.Sal Go.Huf

set_option maxRecDepth 20000 in
set_option maxHeartbeats 16000000 in
theorem sym_gen {key : Nat → Int} {m0 base g n cap bx N : Nat} (IH : SymOK key m0 base g n cap bx N) (hn : n ≤ 1000000) (hk : ∀ z < m0, -100 ≤ key z ∧ key z ≤ 100) (A B P R : List Nat) (w : World) (hN : A.length + B.length = N + 1) (hA : 2 ≤ A.length) (hB : 2 ≤ B.length)
    (hrow : w.ownsRow base 3 1 (.slice (some ⟨g, 0, none⟩) n cap) n (inN (P ++ (A ++ B) ++ R))) (hc : Cmp g w key m0 bx) (hT : Two key m0 A B) :
    Calls Try.prog 103 #[.slice (some ⟨g, 0, none⟩) n cap, .int .i64 (P.length : Nat), .int .i64 ((P.length + A.length : Nat) : Int), .int .i64 ((P.length + A.length + B.length : Nat) : Int), .func (.func 87) #[] #[.pointer (some ⟨bx, 0, none⟩)]] w fun e w' =>
      e = .returned (.tuple #[]) ∧ SR w base g n cap (P ++ isort key (A ++ B) ++ R) w' := by
  have hnl := row_n hrow
  simp only [List.length_append] at hnl
  obtain ⟨M, hM⟩ : ∃ M, M = (A.length + B.length) / 2 := ⟨_, rfl⟩
  have Hbh : Hid (∀ wr s, SS key A B M (M - B.length) (min M A.length) s s → SR w base g n cap (P ++ (A ++ B) ++ R) wr → ∃ D1 D2, ∀ m b mid st en : Nat, m = P.length + A.length → b = P.length + A.length + B.length → mid = P.length + M → st = P.length + s → en = P.length + M + (A.length - s) →
      Behind key base g n cap bx P.length m b mid st en (s = 0) (s = A.length) (M = s) (M = s + B.length) w wr D1 D2 (P ++ isort key (A ++ B) ++ R)) :=
    Lib.hid (fun wr s hs hr => behind IH hT hc hn hN (by omega) hM hs rfl rfl hr)
  have Hrow := Lib.hid hrow
  have Hc := Lib.hid hc
  have HT := Lib.hid hT
  have Hk := Lib.hid hk
  obtain ⟨a, ha⟩ : ∃ a, a = P.length := ⟨_, rfl⟩
  obtain ⟨α, hα⟩ : ∃ α, α = A.length := ⟨_, rfl⟩
  obtain ⟨β, hβ⟩ : ∃ β, β = B.length := ⟨_, rfl⟩
  rw [← ha, ← hα, ← hβ] at Hbh ⊢
  have Hl := Lib.hid (And.intro ha (And.intro hα hβ))
  rw [← hα, ← hβ] at hM hnl
  rw [← hα] at hA
  rw [← hβ] at hB
  rw [← ha] at hnl
  obtain ⟨m, hme⟩ : ∃ m, m = a + α := ⟨_, rfl⟩
  obtain ⟨b, hbe⟩ : ∃ b, b = a + α + β := ⟨_, rfl⟩
  obtain ⟨mid, hmid⟩ : ∃ mid, mid = a + M := ⟨_, rfl⟩
  obtain ⟨nn, hnn⟩ : ∃ nn, nn = mid + m := ⟨_, rfl⟩
  rw [← hbe, ← hme]
  have hbn : b ≤ n := by omega
  have hMd : M < α + β := by omega
  obtain ⟨s0, hs0⟩ : ∃ s0, s0 = a + b := ⟨_, rfl⟩
  have hw1 : IntKind.i64.wrap ((m : Int) - a) = (α : Int) := by rw [IntKind.wrap_i64]; omega
  have hw1n : ((α : Int) == 1) = false := by simpa using (by omega : (α : Int) ≠ 1)
  have hw2 : IntKind.i64.wrap ((b : Int) - m) = (β : Int) := by rw [IntKind.wrap_i64]; omega
  have hw2n : ((β : Int) == 1) = false := by simpa using (by omega : (β : Int) ≠ 1)
  have hw3 : IntKind.i64.wrap ((a : Int) + b) = (s0 : Int) := by rw [IntKind.wrap_i64]; omega
  have hw4 : IntKind.u64.wrap (s0 : Int) = (s0 : Int) := by rw [IntKind.wrap_u64]; omega
  have hw5 := half_cast s0 mid (by omega)
  have hw6 : IntKind.i64.wrap (mid : Int) = (mid : Int) := by rw [IntKind.wrap_i64]; omega
  have hw7 : IntKind.i64.wrap ((mid : Int) + m) = (nn : Int) := by rw [IntKind.wrap_i64]; omega
  obtain ⟨p, hp⟩ : ∃ p, p + 1 = nn := ⟨nn - 1, by omega⟩
  have hw8 : IntKind.i64.wrap ((nn : Int) - 1) = (p : Int) := by rw [IntKind.wrap_i64]; omega
  have hw9 : IntKind.i64.wrap ((nn : Int) - b) = (nn : Int) - b := by rw [IntKind.wrap_i64]; omega
  have Hw := Lib.hid (And.intro hw1 hw2)
  have HE := Lib.hid (And.intro hme (And.intro hbe (And.intro hmid (And.intro hnn (And.intro hM (And.intro hp (And.intro hA (And.intro hB hMd))))))))
  clear hrow hc hT hk ha hα hβ hnl IH hN hs0 hme hbe hmid hnn hM hp hA hB hMd
  by_cases hmm : mid < m
  · have hmmi : (mid : Int) < m := by omega
    go_enter Try.func103, Try.ntmps103
    go_wp2
    go_loopw [20, 21] (fun vi vj wr => ∃ i j : Nat, vi = .int .i64 ((a + i : Nat) : Int) ∧ vj = .int .i64 ((a + j : Nat) : Int) ∧ M - β ≤ i ∧ i ≤ j ∧ j ≤ min M α ∧ Hid (∃ q, wr = w.drewN q) ∧ Hid (SS key A B M (M - β) (min M α) i j)) (fun vi vj _ => (intOf vj).toNat - (intOf vi).toNat)
    case atStart =>
      obtain ⟨hme, hbe, hmid, hnn, hM, hp, hA, hB, hMd⟩ := HE.out
      refine ⟨M - β, M, by congr 1; omega, by rw [hmid], by omega, by omega, by omega, Lib.hid ⟨0, rfl⟩, Lib.hid ⟨by omega, by omega, by omega, fun c h1 h2 => by omega, fun c h1 h2 => by omega⟩⟩
    case round =>
      obtain ⟨i, j, rfl, rfl, hlo, hij, hhi, hq, hI⟩ := hrel
      rcases Nat.lt_or_ge i j with hlt | hge
      · as_aux_lemma =>
          obtain ⟨hme, hbe, hmid, hnn, hM, hp, hA, hB, hMd⟩ := HE.out
          obtain ⟨ha, hα, hβ⟩ := Hl.out
          obtain ⟨cc, hcc⟩ : ∃ cc, cc = (i + j) / 2 := ⟨_, rfl⟩
          have hic : i ≤ cc ∧ cc < j := by omega
          have hdA : cc < A.length := by omega
          have hdB : M - 1 - cc < B.length := by omega
          obtain ⟨I, hIe⟩ : ∃ I, I = a + i := ⟨_, rfl⟩
          obtain ⟨J, hJe⟩ : ∃ J, J = a + j := ⟨_, rfl⟩
          obtain ⟨C, hCe⟩ : ∃ C, C = a + cc := ⟨_, rfl⟩
          obtain ⟨S, hSe⟩ : ∃ S, S = I + J := ⟨_, rfl⟩
          obtain ⟨D, hDe⟩ : ∃ D, D = a + α + (M - 1 - cc) := ⟨_, rfl⟩
          rw [← hIe, ← hJe]
          have hkw : Keep [g] w wr := by
            obtain ⟨q, rfl⟩ := hq.out
            exact (Keep.refl [g] w).drewN q
          have Hq2 : Hid (∀ k, ∃ q, wr.drewN k = w.drewN q) := by
            obtain ⟨q, rfl⟩ := hq.out
            exact Lib.hid (fun k => ⟨_, World.drewN_drewN _ _ _⟩)
          have c1 : wr.cell? ⟨g, C, none⟩ = some (.int .i64 (A.getD cc 0 : Nat)) := by
            obtain ⟨q, rfl⟩ := hq.out
            show w.cell? _ = _
            have := (row_at Hrow.out (at_A (P := P) (A := A) (B := B) (R := R) hdA)).1
            rwa [show P.length + cc = C by omega] at this
          have c2 : wr.cell? ⟨g, D, none⟩ = some (.int .i64 (B.getD (M - 1 - cc) 0 : Nat)) := by
            obtain ⟨q, rfl⟩ := hq.out
            show w.cell? _ = _
            have := (row_at Hrow.out (at_B (P := P) (A := A) (B := B) (R := R) hdB)).1
            rwa [show P.length + A.length + (M - 1 - cc) = D by omega] at this
          have hxm : A.getD cc 0 < m0 := HT.out.lt _ (List.mem_append_left _ (getD_mem hdA))
          have hym : B.getD (M - 1 - cc) 0 < m0 := HT.out.lt _ (List.mem_append_right _ (getD_mem hdB))
          have hxy : A.getD cc 0 < B.getD (M - 1 - cc) 0 := HT.out.ab _ (getD_mem hdA) _ (getD_mem hdB)
          have hlex := lex_late (key := key) hxy
          have Hup : Hid (¬ lexlt key (B.getD (M - 1 - cc) 0) (A.getD cc 0) → SS key A B M (M - β) (min M α) (cc + 1) j) := Lib.hid (fun h => hI.out.up HT.out.sa HT.out.sb (by omega) (by omega) hic.1 hic.2 h)
          have Hdn : Hid (lexlt key (B.getD (M - 1 - cc) 0) (A.getD cc 0) → SS key A B M (M - β) (min M α) i cc) := Lib.hid (fun h => hI.out.down HT.out.sa HT.out.sb (by omega) (by omega) hic.1 hic.2 h)
          generalize A.getD cc 0 = x at *
          generalize B.getD (M - 1 - cc) 0 = y at *
          have hky := Hk.out y hym
          have hkx := Hk.out x hxm
          have hcm : ∀ k2, Calls Try.prog 87 #[.int .i64 (y : Nat), .int .i64 (x : Nat), .pointer (some ⟨bx, 0, none⟩)] (wr.drewN k2) fun e w' => e = .returned (.int .i64 (key y - key x)) ∧ ∃ k, w' = (wr.drewN k2).drewN k := fun k2 => Hc.out _ (hkw.drewN k2) y x hym hxm
          have Hcm := Lib.hid hcm
          have hws : IntKind.i64.wrap ((I : Int) + J) = (S : Int) := by rw [IntKind.wrap_i64]; omega
          have hwu : IntKind.u64.wrap (S : Int) = (S : Int) := by rw [IntKind.wrap_u64]; omega
          have hsh := half_cast S C (by omega)
          have hwh : IntKind.i64.wrap (C : Int) = (C : Int) := by rw [IntKind.wrap_i64]; omega
          have hwh1 : IntKind.i64.wrap ((C : Int) + 1) = (C : Int) + 1 := by rw [IntKind.wrap_i64]; omega
          have hwD : IntKind.i64.wrap ((p : Int) - C) = (D : Int) := by rw [IntKind.wrap_i64]; omega
          have hCn : (C : Int) < n := by omega
          have hDn : (D : Int) < n := by omega
          have hlti : (I : Int) < J := by omega
          have Hlex := Lib.hid hlex
          obtain ⟨kx, hkxd⟩ : ∃ kx, kx = key x := ⟨_, rfl⟩
          obtain ⟨ky, hkyd⟩ : ∃ ky, ky = key y := ⟨_, rfl⟩
          rw [← hkxd, ← hkyd] at Hcm Hlex
          have Hhh := Lib.hid (And.intro (And.intro hic (And.intro hIe hJe)) (And.intro hCe (And.intro hlo hhi)))
          have hkd : -200 ≤ ky - kx ∧ ky - kx ≤ 200 := by omega
          clear hI hme hbe hmid hnn hM hp hA hB hMd ha hα hβ hcc hic hdA hdB hIe hJe hCe hSe hDe hq hkw hxm hym hxy hlex hky hkx hcm hkxd hkyd hlo hij hhi hlt Hrow HT Hk Hbh HE Hl hmm hw1 hw1n hw2 hw2n hw3 hw4 hw5 hw6 hw7 hw8 hw9 hbn
          by_cases hlt2 : ky - kx < 0
          · have dlt : decide (ky - kx < 0) = true := by simpa using hlt2
            have HS := Lib.hid (Hdn.out (Hlex.out.2 (by omega)))
            clear Hup Hdn
            go_wp2_with fail
            go_quiet ((go_at_call 87; exact Calls.quiet_of (Hcm.out _)))
            go_wp2_with fail
            obtain ⟨⟨hic, hIe, hJe⟩, hCe, hlo, hhi⟩ := Hhh.out
            exact ⟨⟨i, cc, by rw [hIe], by rw [hCe], hlo, by omega, by omega, Lib.hid (Hq2.out _), HS⟩, by simp [intOf]; omega⟩
          · have dlt : decide (ky - kx < 0) = false := by simpa using hlt2
            have HS := Lib.hid (Hup.out (fun h => hlt2 (by have := Hlex.out.1 h; omega)))
            clear Hup Hdn
            go_wp2_with fail
            go_quiet ((go_at_call 87; exact Calls.quiet_of (Hcm.out _)))
            go_wp2_with fail
            obtain ⟨⟨hic, hIe, hJe⟩, hCe, hlo, hhi⟩ := Hhh.out
            exact ⟨⟨cc + 1, j, by congr 1; omega, by rw [hJe], by omega, by omega, hhi, Lib.hid (Hq2.out _), HS⟩, by simp [intOf]; omega⟩
      · obtain rfl : i = j := by omega
        obtain ⟨s, hs⟩ : ∃ s, s = i := ⟨_, rfl⟩
        subst hs
        obtain ⟨hme, hbe, hmid, hnn, hM, hp, hA, hB, hMd⟩ := HE.out
        have hs1 : s ≤ M ∧ s ≤ α ∧ M ≤ s + β := by omega
        have hss := hI
        obtain ⟨en, hen⟩ : ∃ en, en = a + M + (α - s) := ⟨_, rfl⟩
        obtain ⟨st, hst⟩ : ∃ st, st = a + s := ⟨_, rfl⟩
        obtain ⟨D1, D2, hBe⟩ := Hbh.out wr s hI.out (by
          obtain ⟨q, rfl⟩ := hq.out
          exact ⟨ownsRow_keep Hrow.out ((Keep.refl [] w).drewN q) (by simp), (Keep.refl [g] w).drewN q⟩)
        have HBe := Lib.hid (hBe m b mid st en hme hbe hmid hst hen)
        rw [← hst]
        clear hBe hI hq hw1 hw2 hw3 hw4 hw5 hw6 hw7 hw8 hw9 hw1n hw2n hlo hhi hij hge hp Hbh Hw hmmi hM HE
        rcases Nat.eq_zero_or_pos s with hp1 | hp1
        · rcases Nat.lt_or_ge s α with hp2 | hp2
          · rcases Nat.eq_zero_or_pos (M - s) with hp3 | hp3
            · rcases Nat.lt_or_ge (M - s) β with hp4 | hp4
              · first | (exfalso; omega) | as_aux_lemma =>
                  have f1 :  (st : Int) < (m : Int) := by omega
                  have f2 : ¬ (m : Int) < (en : Int) := by omega
                  have f3 : ¬ (a : Int) < (st : Int) := by omega
                  have f4 : ¬ (st : Int) < (mid : Int) := by omega
                  have f5 :  (mid : Int) < (en : Int) := by omega
                  have f6 :  (en : Int) < (b : Int) := by omega
                  have hE : IntKind.i64.wrap ((nn : Int) - (st : Int)) = (en : Int) := by rw [IntKind.wrap_i64]; omega
                  have q := Lib.hid (And.intro (show s = 0 by omega) (And.intro (show ¬ s = α by omega) (And.intro (show M = s by omega) (show ¬ M = s + β by omega))))
                  have G1 := Lib.hid (HBe.out.n1 (.inr q.out.2.2.1))
                  have G2 := Lib.hid (HBe.out.n2 _ G1.out (.inl q.out.1))
                  clear hen hst hmid hme hbe hs1 hbn hss hMd hnn hp1 hp2 hp3 hp4 hA hB
                  go_wp2_with (first | (go_at_call 103; refine (HBe.out.c3 _ G2.out q.out.2.1 q.out.2.2.2).mono ?_; rintro e w3 ⟨rfl, hS⟩; have G3 := Lib.hid hS; clear hS))
                  refine bodyPost_end (results_none rfl _ _ _) rfl ?_
                  exact ⟨rfl, by simpa using G3.out⟩
              · exfalso; omega
            · rcases Nat.lt_or_ge (M - s) β with hp4 | hp4
              · first | (exfalso; omega) | as_aux_lemma =>
                  have f1 :  (st : Int) < (m : Int) := by omega
                  have f2 :  (m : Int) < (en : Int) := by omega
                  have f3 : ¬ (a : Int) < (st : Int) := by omega
                  have f4 :  (st : Int) < (mid : Int) := by omega
                  have f5 :  (mid : Int) < (en : Int) := by omega
                  have f6 :  (en : Int) < (b : Int) := by omega
                  have hE : IntKind.i64.wrap ((nn : Int) - (st : Int)) = (en : Int) := by rw [IntKind.wrap_i64]; omega
                  have q := Lib.hid (And.intro (show s = 0 by omega) (And.intro (show ¬ s = α by omega) (And.intro (show ¬ M = s by omega) (show ¬ M = s + β by omega))))
                  clear hen hst hmid hme hbe hs1 hbn hss hMd hnn hp1 hp2 hp3 hp4 hA hB
                  go_wp2_with (first | (go_at_call 104; refine (HBe.out.c1 q.out.2.1 q.out.2.2.1).mono ?_; rintro e w1 ⟨rfl, hS⟩; have G1 := Lib.hid hS; clear hS; have G2 := Lib.hid (HBe.out.n2 _ G1.out (.inl q.out.1))) | (go_at_call 103; refine (HBe.out.c3 _ G2.out q.out.2.1 q.out.2.2.2).mono ?_; rintro e w3 ⟨rfl, hS⟩; have G3 := Lib.hid hS; clear hS))
                  refine bodyPost_end (results_none rfl _ _ _) rfl ?_
                  exact ⟨rfl, by simpa using G3.out⟩
              · first | (exfalso; omega) | as_aux_lemma =>
                  have f1 :  (st : Int) < (m : Int) := by omega
                  have f2 :  (m : Int) < (en : Int) := by omega
                  have f3 : ¬ (a : Int) < (st : Int) := by omega
                  have f4 :  (st : Int) < (mid : Int) := by omega
                  have f5 :  (mid : Int) < (en : Int) := by omega
                  have f6 : ¬ (en : Int) < (b : Int) := by omega
                  have hE : IntKind.i64.wrap ((nn : Int) - (st : Int)) = (en : Int) := by rw [IntKind.wrap_i64]; omega
                  have q := Lib.hid (And.intro (show s = 0 by omega) (And.intro (show ¬ s = α by omega) (And.intro (show ¬ M = s by omega) (show M = s + β by omega))))
                  clear hen hst hmid hme hbe hs1 hbn hss hMd hnn hp1 hp2 hp3 hp4 hA hB
                  go_wp2_with (first | (go_at_call 104; refine (HBe.out.c1 q.out.2.1 q.out.2.2.1).mono ?_; rintro e w1 ⟨rfl, hS⟩; have G1 := Lib.hid hS; clear hS; have G2 := Lib.hid (HBe.out.n2 _ G1.out (.inl q.out.1)); have G3 := Lib.hid (HBe.out.n3 _ G2.out (.inr q.out.2.2.2))))
                  refine bodyPost_end (results_none rfl _ _ _) rfl ?_
                  exact ⟨rfl, by simpa using G3.out⟩
          · rcases Nat.eq_zero_or_pos (M - s) with hp3 | hp3
            · rcases Nat.lt_or_ge (M - s) β with hp4 | hp4
              · exfalso; omega
              · exfalso; omega
            · rcases Nat.lt_or_ge (M - s) β with hp4 | hp4
              · exfalso; omega
              · exfalso; omega
        · rcases Nat.lt_or_ge s α with hp2 | hp2
          · rcases Nat.eq_zero_or_pos (M - s) with hp3 | hp3
            · rcases Nat.lt_or_ge (M - s) β with hp4 | hp4
              · first | (exfalso; omega) | as_aux_lemma =>
                  have f1 :  (st : Int) < (m : Int) := by omega
                  have f2 : ¬ (m : Int) < (en : Int) := by omega
                  have f3 :  (a : Int) < (st : Int) := by omega
                  have f4 : ¬ (st : Int) < (mid : Int) := by omega
                  have f5 :  (mid : Int) < (en : Int) := by omega
                  have f6 :  (en : Int) < (b : Int) := by omega
                  have hE : IntKind.i64.wrap ((nn : Int) - (st : Int)) = (en : Int) := by rw [IntKind.wrap_i64]; omega
                  have q := Lib.hid (And.intro (show ¬ s = 0 by omega) (And.intro (show ¬ s = α by omega) (And.intro (show M = s by omega) (show ¬ M = s + β by omega))))
                  have G1 := Lib.hid (HBe.out.n1 (.inr q.out.2.2.1))
                  have G2 := Lib.hid (HBe.out.n2 _ G1.out (.inr q.out.2.2.1))
                  clear hen hst hmid hme hbe hs1 hbn hss hMd hnn hp1 hp2 hp3 hp4 hA hB
                  go_wp2_with (first | (go_at_call 103; refine (HBe.out.c3 _ G2.out q.out.2.1 q.out.2.2.2).mono ?_; rintro e w3 ⟨rfl, hS⟩; have G3 := Lib.hid hS; clear hS))
                  refine bodyPost_end (results_none rfl _ _ _) rfl ?_
                  exact ⟨rfl, by simpa using G3.out⟩
              · exfalso; omega
            · rcases Nat.lt_or_ge (M - s) β with hp4 | hp4
              · first | (exfalso; omega) | as_aux_lemma =>
                  have f1 :  (st : Int) < (m : Int) := by omega
                  have f2 :  (m : Int) < (en : Int) := by omega
                  have f3 :  (a : Int) < (st : Int) := by omega
                  have f4 :  (st : Int) < (mid : Int) := by omega
                  have f5 :  (mid : Int) < (en : Int) := by omega
                  have f6 :  (en : Int) < (b : Int) := by omega
                  have hE : IntKind.i64.wrap ((nn : Int) - (st : Int)) = (en : Int) := by rw [IntKind.wrap_i64]; omega
                  have q := Lib.hid (And.intro (show ¬ s = 0 by omega) (And.intro (show ¬ s = α by omega) (And.intro (show ¬ M = s by omega) (show ¬ M = s + β by omega))))
                  have TK : True := trivial
                  clear hen hst hmid hme hbe hs1 hbn hss hMd hnn hp1 hp2 hp3 hp4 hA hB
                  go_wp2_with (first | (go_at_call 104; refine (HBe.out.c1 q.out.2.1 q.out.2.2.1).mono ?_; rintro e w1 ⟨rfl, hS⟩; have G1 := Lib.hid hS; clear hS) | (go_at_call 103; clear TK; refine (HBe.out.c2 _ G1.out q.out.1 q.out.2.2.1).mono ?_; rintro e w2 ⟨rfl, hS⟩; have G2 := Lib.hid hS; clear hS) | (go_at_call 103; refine (HBe.out.c3 _ G2.out q.out.2.1 q.out.2.2.2).mono ?_; rintro e w3 ⟨rfl, hS⟩; have G3 := Lib.hid hS; clear hS))
                  refine bodyPost_end (results_none rfl _ _ _) rfl ?_
                  exact ⟨rfl, by simpa using G3.out⟩
              · first | (exfalso; omega) | as_aux_lemma =>
                  have f1 :  (st : Int) < (m : Int) := by omega
                  have f2 :  (m : Int) < (en : Int) := by omega
                  have f3 :  (a : Int) < (st : Int) := by omega
                  have f4 :  (st : Int) < (mid : Int) := by omega
                  have f5 :  (mid : Int) < (en : Int) := by omega
                  have f6 : ¬ (en : Int) < (b : Int) := by omega
                  have hE : IntKind.i64.wrap ((nn : Int) - (st : Int)) = (en : Int) := by rw [IntKind.wrap_i64]; omega
                  have q := Lib.hid (And.intro (show ¬ s = 0 by omega) (And.intro (show ¬ s = α by omega) (And.intro (show ¬ M = s by omega) (show M = s + β by omega))))
                  have TK : True := trivial
                  clear hen hst hmid hme hbe hs1 hbn hss hMd hnn hp1 hp2 hp3 hp4 hA hB
                  go_wp2_with (first | (go_at_call 104; refine (HBe.out.c1 q.out.2.1 q.out.2.2.1).mono ?_; rintro e w1 ⟨rfl, hS⟩; have G1 := Lib.hid hS; clear hS) | (go_at_call 103; clear TK; refine (HBe.out.c2 _ G1.out q.out.1 q.out.2.2.1).mono ?_; rintro e w2 ⟨rfl, hS⟩; have G2 := Lib.hid hS; clear hS; have G3 := Lib.hid (HBe.out.n3 _ G2.out (.inr q.out.2.2.2))))
                  refine bodyPost_end (results_none rfl _ _ _) rfl ?_
                  exact ⟨rfl, by simpa using G3.out⟩
          · rcases Nat.eq_zero_or_pos (M - s) with hp3 | hp3
            · rcases Nat.lt_or_ge (M - s) β with hp4 | hp4
              · first | (exfalso; omega) | as_aux_lemma =>
                  have f1 : ¬ (st : Int) < (m : Int) := by omega
                  have f2 : ¬ (m : Int) < (en : Int) := by omega
                  have f3 :  (a : Int) < (st : Int) := by omega
                  have f4 : ¬ (st : Int) < (mid : Int) := by omega
                  have f5 : ¬ (mid : Int) < (en : Int) := by omega
                  have f6 :  (en : Int) < (b : Int) := by omega
                  have hE : IntKind.i64.wrap ((nn : Int) - (st : Int)) = (en : Int) := by rw [IntKind.wrap_i64]; omega
                  have q := Lib.hid (And.intro (show ¬ s = 0 by omega) (And.intro (show s = α by omega) (And.intro (show M = s by omega) (show ¬ M = s + β by omega))))
                  have G1 := Lib.hid (HBe.out.n1 (.inl q.out.2.1))
                  have G2 := Lib.hid (HBe.out.n2 _ G1.out (.inr q.out.2.2.1))
                  have G3 := Lib.hid (HBe.out.n3 _ G2.out (.inl q.out.2.1))
                  clear hen hst hmid hme hbe hs1 hbn hss hMd hnn hp1 hp2 hp3 hp4 hA hB
                  go_wp2_with fail
                  refine bodyPost_end (results_none rfl _ _ _) rfl ?_
                  exact ⟨rfl, by simpa using G3.out⟩
              · exfalso; omega
            · rcases Nat.lt_or_ge (M - s) β with hp4 | hp4
              · first | (exfalso; omega) | as_aux_lemma =>
                  have f1 : ¬ (st : Int) < (m : Int) := by omega
                  have f2 :  (m : Int) < (en : Int) := by omega
                  have f3 :  (a : Int) < (st : Int) := by omega
                  have f4 :  (st : Int) < (mid : Int) := by omega
                  have f5 : ¬ (mid : Int) < (en : Int) := by omega
                  have f6 :  (en : Int) < (b : Int) := by omega
                  have hE : IntKind.i64.wrap ((nn : Int) - (st : Int)) = (en : Int) := by rw [IntKind.wrap_i64]; omega
                  have q := Lib.hid (And.intro (show ¬ s = 0 by omega) (And.intro (show s = α by omega) (And.intro (show ¬ M = s by omega) (show ¬ M = s + β by omega))))
                  have G1 := Lib.hid (HBe.out.n1 (.inl q.out.2.1))
                  have TK : True := trivial
                  clear hen hst hmid hme hbe hs1 hbn hss hMd hnn hp1 hp2 hp3 hp4 hA hB
                  go_wp2_with (first | (go_at_call 103; clear TK; refine (HBe.out.c2 _ G1.out q.out.1 q.out.2.2.1).mono ?_; rintro e w2 ⟨rfl, hS⟩; have G2 := Lib.hid hS; clear hS; have G3 := Lib.hid (HBe.out.n3 _ G2.out (.inl q.out.2.1))))
                  refine bodyPost_end (results_none rfl _ _ _) rfl ?_
                  exact ⟨rfl, by simpa using G3.out⟩
              · first | (exfalso; omega) | as_aux_lemma =>
                  have f1 : ¬ (st : Int) < (m : Int) := by omega
                  have f2 :  (m : Int) < (en : Int) := by omega
                  have f3 :  (a : Int) < (st : Int) := by omega
                  have f4 :  (st : Int) < (mid : Int) := by omega
                  have f5 : ¬ (mid : Int) < (en : Int) := by omega
                  have f6 : ¬ (en : Int) < (b : Int) := by omega
                  have hE : IntKind.i64.wrap ((nn : Int) - (st : Int)) = (en : Int) := by rw [IntKind.wrap_i64]; omega
                  have q := Lib.hid (And.intro (show ¬ s = 0 by omega) (And.intro (show s = α by omega) (And.intro (show ¬ M = s by omega) (show M = s + β by omega))))
                  have G1 := Lib.hid (HBe.out.n1 (.inl q.out.2.1))
                  have TK : True := trivial
                  clear hen hst hmid hme hbe hs1 hbn hss hMd hnn hp1 hp2 hp3 hp4 hA hB
                  go_wp2_with (first | (go_at_call 103; clear TK; refine (HBe.out.c2 _ G1.out q.out.1 q.out.2.2.1).mono ?_; rintro e w2 ⟨rfl, hS⟩; have G2 := Lib.hid hS; clear hS; have G3 := Lib.hid (HBe.out.n3 _ G2.out (.inl q.out.2.1))))
                  refine bodyPost_end (results_none rfl _ _ _) rfl ?_
                  exact ⟨rfl, by simpa using G3.out⟩
  · have hmmi : ¬ (mid : Int) < m := by omega
    go_enter Try.func103, Try.ntmps103
    go_wp2
    go_loopw [20, 21] (fun vi vj wr => ∃ i j : Nat, vi = .int .i64 ((a + i : Nat) : Int) ∧ vj = .int .i64 ((a + j : Nat) : Int) ∧ M - β ≤ i ∧ i ≤ j ∧ j ≤ min M α ∧ Hid (∃ q, wr = w.drewN q) ∧ Hid (SS key A B M (M - β) (min M α) i j)) (fun vi vj _ => (intOf vj).toNat - (intOf vi).toNat)
    case atStart =>
      obtain ⟨hme, hbe, hmid, hnn, hM, hp, hA, hB, hMd⟩ := HE.out
      refine ⟨M - β, α, by congr 1; omega, by rw [hme], by omega, by omega, by omega, Lib.hid ⟨0, rfl⟩, Lib.hid ⟨by omega, by omega, by omega, fun c h1 h2 => by omega, fun c h1 h2 => by omega⟩⟩
    case round =>
      obtain ⟨i, j, rfl, rfl, hlo, hij, hhi, hq, hI⟩ := hrel
      rcases Nat.lt_or_ge i j with hlt | hge
      · as_aux_lemma =>
          obtain ⟨hme, hbe, hmid, hnn, hM, hp, hA, hB, hMd⟩ := HE.out
          obtain ⟨ha, hα, hβ⟩ := Hl.out
          obtain ⟨cc, hcc⟩ : ∃ cc, cc = (i + j) / 2 := ⟨_, rfl⟩
          have hic : i ≤ cc ∧ cc < j := by omega
          have hdA : cc < A.length := by omega
          have hdB : M - 1 - cc < B.length := by omega
          obtain ⟨I, hIe⟩ : ∃ I, I = a + i := ⟨_, rfl⟩
          obtain ⟨J, hJe⟩ : ∃ J, J = a + j := ⟨_, rfl⟩
          obtain ⟨C, hCe⟩ : ∃ C, C = a + cc := ⟨_, rfl⟩
          obtain ⟨S, hSe⟩ : ∃ S, S = I + J := ⟨_, rfl⟩
          obtain ⟨D, hDe⟩ : ∃ D, D = a + α + (M - 1 - cc) := ⟨_, rfl⟩
          rw [← hIe, ← hJe]
          have hkw : Keep [g] w wr := by
            obtain ⟨q, rfl⟩ := hq.out
            exact (Keep.refl [g] w).drewN q
          have Hq2 : Hid (∀ k, ∃ q, wr.drewN k = w.drewN q) := by
            obtain ⟨q, rfl⟩ := hq.out
            exact Lib.hid (fun k => ⟨_, World.drewN_drewN _ _ _⟩)
          have c1 : wr.cell? ⟨g, C, none⟩ = some (.int .i64 (A.getD cc 0 : Nat)) := by
            obtain ⟨q, rfl⟩ := hq.out
            show w.cell? _ = _
            have := (row_at Hrow.out (at_A (P := P) (A := A) (B := B) (R := R) hdA)).1
            rwa [show P.length + cc = C by omega] at this
          have c2 : wr.cell? ⟨g, D, none⟩ = some (.int .i64 (B.getD (M - 1 - cc) 0 : Nat)) := by
            obtain ⟨q, rfl⟩ := hq.out
            show w.cell? _ = _
            have := (row_at Hrow.out (at_B (P := P) (A := A) (B := B) (R := R) hdB)).1
            rwa [show P.length + A.length + (M - 1 - cc) = D by omega] at this
          have hxm : A.getD cc 0 < m0 := HT.out.lt _ (List.mem_append_left _ (getD_mem hdA))
          have hym : B.getD (M - 1 - cc) 0 < m0 := HT.out.lt _ (List.mem_append_right _ (getD_mem hdB))
          have hxy : A.getD cc 0 < B.getD (M - 1 - cc) 0 := HT.out.ab _ (getD_mem hdA) _ (getD_mem hdB)
          have hlex := lex_late (key := key) hxy
          have Hup : Hid (¬ lexlt key (B.getD (M - 1 - cc) 0) (A.getD cc 0) → SS key A B M (M - β) (min M α) (cc + 1) j) := Lib.hid (fun h => hI.out.up HT.out.sa HT.out.sb (by omega) (by omega) hic.1 hic.2 h)
          have Hdn : Hid (lexlt key (B.getD (M - 1 - cc) 0) (A.getD cc 0) → SS key A B M (M - β) (min M α) i cc) := Lib.hid (fun h => hI.out.down HT.out.sa HT.out.sb (by omega) (by omega) hic.1 hic.2 h)
          generalize A.getD cc 0 = x at *
          generalize B.getD (M - 1 - cc) 0 = y at *
          have hky := Hk.out y hym
          have hkx := Hk.out x hxm
          have hcm : ∀ k2, Calls Try.prog 87 #[.int .i64 (y : Nat), .int .i64 (x : Nat), .pointer (some ⟨bx, 0, none⟩)] (wr.drewN k2) fun e w' => e = .returned (.int .i64 (key y - key x)) ∧ ∃ k, w' = (wr.drewN k2).drewN k := fun k2 => Hc.out _ (hkw.drewN k2) y x hym hxm
          have Hcm := Lib.hid hcm
          have hws : IntKind.i64.wrap ((I : Int) + J) = (S : Int) := by rw [IntKind.wrap_i64]; omega
          have hwu : IntKind.u64.wrap (S : Int) = (S : Int) := by rw [IntKind.wrap_u64]; omega
          have hsh := half_cast S C (by omega)
          have hwh : IntKind.i64.wrap (C : Int) = (C : Int) := by rw [IntKind.wrap_i64]; omega
          have hwh1 : IntKind.i64.wrap ((C : Int) + 1) = (C : Int) + 1 := by rw [IntKind.wrap_i64]; omega
          have hwD : IntKind.i64.wrap ((p : Int) - C) = (D : Int) := by rw [IntKind.wrap_i64]; omega
          have hCn : (C : Int) < n := by omega
          have hDn : (D : Int) < n := by omega
          have hlti : (I : Int) < J := by omega
          have Hlex := Lib.hid hlex
          obtain ⟨kx, hkxd⟩ : ∃ kx, kx = key x := ⟨_, rfl⟩
          obtain ⟨ky, hkyd⟩ : ∃ ky, ky = key y := ⟨_, rfl⟩
          rw [← hkxd, ← hkyd] at Hcm Hlex
          have Hhh := Lib.hid (And.intro (And.intro hic (And.intro hIe hJe)) (And.intro hCe (And.intro hlo hhi)))
          have hkd : -200 ≤ ky - kx ∧ ky - kx ≤ 200 := by omega
          clear hI hme hbe hmid hnn hM hp hA hB hMd ha hα hβ hcc hic hdA hdB hIe hJe hCe hSe hDe hq hkw hxm hym hxy hlex hky hkx hcm hkxd hkyd hlo hij hhi hlt Hrow HT Hk Hbh HE Hl hmm hw1 hw1n hw2 hw2n hw3 hw4 hw5 hw6 hw7 hw8 hw9 hbn
          by_cases hlt2 : ky - kx < 0
          · have dlt : decide (ky - kx < 0) = true := by simpa using hlt2
            have HS := Lib.hid (Hdn.out (Hlex.out.2 (by omega)))
            clear Hup Hdn
            go_wp2_with fail
            go_quiet ((go_at_call 87; exact Calls.quiet_of (Hcm.out _)))
            go_wp2_with fail
            obtain ⟨⟨hic, hIe, hJe⟩, hCe, hlo, hhi⟩ := Hhh.out
            exact ⟨⟨i, cc, by rw [hIe], by rw [hCe], hlo, by omega, by omega, Lib.hid (Hq2.out _), HS⟩, by simp [intOf]; omega⟩
          · have dlt : decide (ky - kx < 0) = false := by simpa using hlt2
            have HS := Lib.hid (Hup.out (fun h => hlt2 (by have := Hlex.out.1 h; omega)))
            clear Hup Hdn
            go_wp2_with fail
            go_quiet ((go_at_call 87; exact Calls.quiet_of (Hcm.out _)))
            go_wp2_with fail
            obtain ⟨⟨hic, hIe, hJe⟩, hCe, hlo, hhi⟩ := Hhh.out
            exact ⟨⟨cc + 1, j, by congr 1; omega, by rw [hJe], by omega, by omega, hhi, Lib.hid (Hq2.out _), HS⟩, by simp [intOf]; omega⟩
      · obtain rfl : i = j := by omega
        obtain ⟨s, hs⟩ : ∃ s, s = i := ⟨_, rfl⟩
        subst hs
        obtain ⟨hme, hbe, hmid, hnn, hM, hp, hA, hB, hMd⟩ := HE.out
        have hs1 : s ≤ M ∧ s ≤ α ∧ M ≤ s + β := by omega
        have hss := hI
        obtain ⟨en, hen⟩ : ∃ en, en = a + M + (α - s) := ⟨_, rfl⟩
        obtain ⟨st, hst⟩ : ∃ st, st = a + s := ⟨_, rfl⟩
        obtain ⟨D1, D2, hBe⟩ := Hbh.out wr s hI.out (by
          obtain ⟨q, rfl⟩ := hq.out
          exact ⟨ownsRow_keep Hrow.out ((Keep.refl [] w).drewN q) (by simp), (Keep.refl [g] w).drewN q⟩)
        have HBe := Lib.hid (hBe m b mid st en hme hbe hmid hst hen)
        rw [← hst]
        clear hBe hI hq hw1 hw2 hw3 hw4 hw5 hw6 hw7 hw8 hw9 hw1n hw2n hlo hhi hij hge hp Hbh Hw hmmi hM HE
        rcases Nat.eq_zero_or_pos s with hp1 | hp1
        · rcases Nat.lt_or_ge s α with hp2 | hp2
          · rcases Nat.eq_zero_or_pos (M - s) with hp3 | hp3
            · rcases Nat.lt_or_ge (M - s) β with hp4 | hp4
              · first | (exfalso; omega) | as_aux_lemma =>
                  have f1 :  (st : Int) < (m : Int) := by omega
                  have f2 : ¬ (m : Int) < (en : Int) := by omega
                  have f3 : ¬ (a : Int) < (st : Int) := by omega
                  have f4 : ¬ (st : Int) < (mid : Int) := by omega
                  have f5 :  (mid : Int) < (en : Int) := by omega
                  have f6 :  (en : Int) < (b : Int) := by omega
                  have hE : IntKind.i64.wrap ((nn : Int) - (st : Int)) = (en : Int) := by rw [IntKind.wrap_i64]; omega
                  have q := Lib.hid (And.intro (show s = 0 by omega) (And.intro (show ¬ s = α by omega) (And.intro (show M = s by omega) (show ¬ M = s + β by omega))))
                  have G1 := Lib.hid (HBe.out.n1 (.inr q.out.2.2.1))
                  have G2 := Lib.hid (HBe.out.n2 _ G1.out (.inl q.out.1))
                  clear hen hst hmid hme hbe hs1 hbn hss hMd hnn hp1 hp2 hp3 hp4 hA hB
                  go_wp2_with (first | (go_at_call 103; refine (HBe.out.c3 _ G2.out q.out.2.1 q.out.2.2.2).mono ?_; rintro e w3 ⟨rfl, hS⟩; have G3 := Lib.hid hS; clear hS))
                  refine bodyPost_end (results_none rfl _ _ _) rfl ?_
                  exact ⟨rfl, by simpa using G3.out⟩
              · exfalso; omega
            · rcases Nat.lt_or_ge (M - s) β with hp4 | hp4
              · first | (exfalso; omega) | as_aux_lemma =>
                  have f1 :  (st : Int) < (m : Int) := by omega
                  have f2 :  (m : Int) < (en : Int) := by omega
                  have f3 : ¬ (a : Int) < (st : Int) := by omega
                  have f4 :  (st : Int) < (mid : Int) := by omega
                  have f5 :  (mid : Int) < (en : Int) := by omega
                  have f6 :  (en : Int) < (b : Int) := by omega
                  have hE : IntKind.i64.wrap ((nn : Int) - (st : Int)) = (en : Int) := by rw [IntKind.wrap_i64]; omega
                  have q := Lib.hid (And.intro (show s = 0 by omega) (And.intro (show ¬ s = α by omega) (And.intro (show ¬ M = s by omega) (show ¬ M = s + β by omega))))
                  clear hen hst hmid hme hbe hs1 hbn hss hMd hnn hp1 hp2 hp3 hp4 hA hB
                  go_wp2_with (first | (go_at_call 104; refine (HBe.out.c1 q.out.2.1 q.out.2.2.1).mono ?_; rintro e w1 ⟨rfl, hS⟩; have G1 := Lib.hid hS; clear hS; have G2 := Lib.hid (HBe.out.n2 _ G1.out (.inl q.out.1))) | (go_at_call 103; refine (HBe.out.c3 _ G2.out q.out.2.1 q.out.2.2.2).mono ?_; rintro e w3 ⟨rfl, hS⟩; have G3 := Lib.hid hS; clear hS))
                  refine bodyPost_end (results_none rfl _ _ _) rfl ?_
                  exact ⟨rfl, by simpa using G3.out⟩
              · first | (exfalso; omega) | as_aux_lemma =>
                  have f1 :  (st : Int) < (m : Int) := by omega
                  have f2 :  (m : Int) < (en : Int) := by omega
                  have f3 : ¬ (a : Int) < (st : Int) := by omega
                  have f4 :  (st : Int) < (mid : Int) := by omega
                  have f5 :  (mid : Int) < (en : Int) := by omega
                  have f6 : ¬ (en : Int) < (b : Int) := by omega
                  have hE : IntKind.i64.wrap ((nn : Int) - (st : Int)) = (en : Int) := by rw [IntKind.wrap_i64]; omega
                  have q := Lib.hid (And.intro (show s = 0 by omega) (And.intro (show ¬ s = α by omega) (And.intro (show ¬ M = s by omega) (show M = s + β by omega))))
                  clear hen hst hmid hme hbe hs1 hbn hss hMd hnn hp1 hp2 hp3 hp4 hA hB
                  go_wp2_with (first | (go_at_call 104; refine (HBe.out.c1 q.out.2.1 q.out.2.2.1).mono ?_; rintro e w1 ⟨rfl, hS⟩; have G1 := Lib.hid hS; clear hS; have G2 := Lib.hid (HBe.out.n2 _ G1.out (.inl q.out.1)); have G3 := Lib.hid (HBe.out.n3 _ G2.out (.inr q.out.2.2.2))))
                  refine bodyPost_end (results_none rfl _ _ _) rfl ?_
                  exact ⟨rfl, by simpa using G3.out⟩
          · rcases Nat.eq_zero_or_pos (M - s) with hp3 | hp3
            · rcases Nat.lt_or_ge (M - s) β with hp4 | hp4
              · exfalso; omega
              · exfalso; omega
            · rcases Nat.lt_or_ge (M - s) β with hp4 | hp4
              · exfalso; omega
              · exfalso; omega
        · rcases Nat.lt_or_ge s α with hp2 | hp2
          · rcases Nat.eq_zero_or_pos (M - s) with hp3 | hp3
            · rcases Nat.lt_or_ge (M - s) β with hp4 | hp4
              · first | (exfalso; omega) | as_aux_lemma =>
                  have f1 :  (st : Int) < (m : Int) := by omega
                  have f2 : ¬ (m : Int) < (en : Int) := by omega
                  have f3 :  (a : Int) < (st : Int) := by omega
                  have f4 : ¬ (st : Int) < (mid : Int) := by omega
                  have f5 :  (mid : Int) < (en : Int) := by omega
                  have f6 :  (en : Int) < (b : Int) := by omega
                  have hE : IntKind.i64.wrap ((nn : Int) - (st : Int)) = (en : Int) := by rw [IntKind.wrap_i64]; omega
                  have q := Lib.hid (And.intro (show ¬ s = 0 by omega) (And.intro (show ¬ s = α by omega) (And.intro (show M = s by omega) (show ¬ M = s + β by omega))))
                  have G1 := Lib.hid (HBe.out.n1 (.inr q.out.2.2.1))
                  have G2 := Lib.hid (HBe.out.n2 _ G1.out (.inr q.out.2.2.1))
                  clear hen hst hmid hme hbe hs1 hbn hss hMd hnn hp1 hp2 hp3 hp4 hA hB
                  go_wp2_with (first | (go_at_call 103; refine (HBe.out.c3 _ G2.out q.out.2.1 q.out.2.2.2).mono ?_; rintro e w3 ⟨rfl, hS⟩; have G3 := Lib.hid hS; clear hS))
                  refine bodyPost_end (results_none rfl _ _ _) rfl ?_
                  exact ⟨rfl, by simpa using G3.out⟩
              · exfalso; omega
            · rcases Nat.lt_or_ge (M - s) β with hp4 | hp4
              · first | (exfalso; omega) | as_aux_lemma =>
                  have f1 :  (st : Int) < (m : Int) := by omega
                  have f2 :  (m : Int) < (en : Int) := by omega
                  have f3 :  (a : Int) < (st : Int) := by omega
                  have f4 :  (st : Int) < (mid : Int) := by omega
                  have f5 :  (mid : Int) < (en : Int) := by omega
                  have f6 :  (en : Int) < (b : Int) := by omega
                  have hE : IntKind.i64.wrap ((nn : Int) - (st : Int)) = (en : Int) := by rw [IntKind.wrap_i64]; omega
                  have q := Lib.hid (And.intro (show ¬ s = 0 by omega) (And.intro (show ¬ s = α by omega) (And.intro (show ¬ M = s by omega) (show ¬ M = s + β by omega))))
                  have TK : True := trivial
                  clear hen hst hmid hme hbe hs1 hbn hss hMd hnn hp1 hp2 hp3 hp4 hA hB
                  go_wp2_with (first | (go_at_call 104; refine (HBe.out.c1 q.out.2.1 q.out.2.2.1).mono ?_; rintro e w1 ⟨rfl, hS⟩; have G1 := Lib.hid hS; clear hS) | (go_at_call 103; clear TK; refine (HBe.out.c2 _ G1.out q.out.1 q.out.2.2.1).mono ?_; rintro e w2 ⟨rfl, hS⟩; have G2 := Lib.hid hS; clear hS) | (go_at_call 103; refine (HBe.out.c3 _ G2.out q.out.2.1 q.out.2.2.2).mono ?_; rintro e w3 ⟨rfl, hS⟩; have G3 := Lib.hid hS; clear hS))
                  refine bodyPost_end (results_none rfl _ _ _) rfl ?_
                  exact ⟨rfl, by simpa using G3.out⟩
              · first | (exfalso; omega) | as_aux_lemma =>
                  have f1 :  (st : Int) < (m : Int) := by omega
                  have f2 :  (m : Int) < (en : Int) := by omega
                  have f3 :  (a : Int) < (st : Int) := by omega
                  have f4 :  (st : Int) < (mid : Int) := by omega
                  have f5 :  (mid : Int) < (en : Int) := by omega
                  have f6 : ¬ (en : Int) < (b : Int) := by omega
                  have hE : IntKind.i64.wrap ((nn : Int) - (st : Int)) = (en : Int) := by rw [IntKind.wrap_i64]; omega
                  have q := Lib.hid (And.intro (show ¬ s = 0 by omega) (And.intro (show ¬ s = α by omega) (And.intro (show ¬ M = s by omega) (show M = s + β by omega))))
                  have TK : True := trivial
                  clear hen hst hmid hme hbe hs1 hbn hss hMd hnn hp1 hp2 hp3 hp4 hA hB
                  go_wp2_with (first | (go_at_call 104; refine (HBe.out.c1 q.out.2.1 q.out.2.2.1).mono ?_; rintro e w1 ⟨rfl, hS⟩; have G1 := Lib.hid hS; clear hS) | (go_at_call 103; clear TK; refine (HBe.out.c2 _ G1.out q.out.1 q.out.2.2.1).mono ?_; rintro e w2 ⟨rfl, hS⟩; have G2 := Lib.hid hS; clear hS; have G3 := Lib.hid (HBe.out.n3 _ G2.out (.inr q.out.2.2.2))))
                  refine bodyPost_end (results_none rfl _ _ _) rfl ?_
                  exact ⟨rfl, by simpa using G3.out⟩
          · rcases Nat.eq_zero_or_pos (M - s) with hp3 | hp3
            · rcases Nat.lt_or_ge (M - s) β with hp4 | hp4
              · first | (exfalso; omega) | as_aux_lemma =>
                  have f1 : ¬ (st : Int) < (m : Int) := by omega
                  have f2 : ¬ (m : Int) < (en : Int) := by omega
                  have f3 :  (a : Int) < (st : Int) := by omega
                  have f4 : ¬ (st : Int) < (mid : Int) := by omega
                  have f5 : ¬ (mid : Int) < (en : Int) := by omega
                  have f6 :  (en : Int) < (b : Int) := by omega
                  have hE : IntKind.i64.wrap ((nn : Int) - (st : Int)) = (en : Int) := by rw [IntKind.wrap_i64]; omega
                  have q := Lib.hid (And.intro (show ¬ s = 0 by omega) (And.intro (show s = α by omega) (And.intro (show M = s by omega) (show ¬ M = s + β by omega))))
                  have G1 := Lib.hid (HBe.out.n1 (.inl q.out.2.1))
                  have G2 := Lib.hid (HBe.out.n2 _ G1.out (.inr q.out.2.2.1))
                  have G3 := Lib.hid (HBe.out.n3 _ G2.out (.inl q.out.2.1))
                  clear hen hst hmid hme hbe hs1 hbn hss hMd hnn hp1 hp2 hp3 hp4 hA hB
                  go_wp2_with fail
                  refine bodyPost_end (results_none rfl _ _ _) rfl ?_
                  exact ⟨rfl, by simpa using G3.out⟩
              · exfalso; omega
            · rcases Nat.lt_or_ge (M - s) β with hp4 | hp4
              · first | (exfalso; omega) | as_aux_lemma =>
                  have f1 : ¬ (st : Int) < (m : Int) := by omega
                  have f2 :  (m : Int) < (en : Int) := by omega
                  have f3 :  (a : Int) < (st : Int) := by omega
                  have f4 :  (st : Int) < (mid : Int) := by omega
                  have f5 : ¬ (mid : Int) < (en : Int) := by omega
                  have f6 :  (en : Int) < (b : Int) := by omega
                  have hE : IntKind.i64.wrap ((nn : Int) - (st : Int)) = (en : Int) := by rw [IntKind.wrap_i64]; omega
                  have q := Lib.hid (And.intro (show ¬ s = 0 by omega) (And.intro (show s = α by omega) (And.intro (show ¬ M = s by omega) (show ¬ M = s + β by omega))))
                  have G1 := Lib.hid (HBe.out.n1 (.inl q.out.2.1))
                  have TK : True := trivial
                  clear hen hst hmid hme hbe hs1 hbn hss hMd hnn hp1 hp2 hp3 hp4 hA hB
                  go_wp2_with (first | (go_at_call 103; clear TK; refine (HBe.out.c2 _ G1.out q.out.1 q.out.2.2.1).mono ?_; rintro e w2 ⟨rfl, hS⟩; have G2 := Lib.hid hS; clear hS; have G3 := Lib.hid (HBe.out.n3 _ G2.out (.inl q.out.2.1))))
                  refine bodyPost_end (results_none rfl _ _ _) rfl ?_
                  exact ⟨rfl, by simpa using G3.out⟩
              · first | (exfalso; omega) | as_aux_lemma =>
                  have f1 : ¬ (st : Int) < (m : Int) := by omega
                  have f2 :  (m : Int) < (en : Int) := by omega
                  have f3 :  (a : Int) < (st : Int) := by omega
                  have f4 :  (st : Int) < (mid : Int) := by omega
                  have f5 : ¬ (mid : Int) < (en : Int) := by omega
                  have f6 : ¬ (en : Int) < (b : Int) := by omega
                  have hE : IntKind.i64.wrap ((nn : Int) - (st : Int)) = (en : Int) := by rw [IntKind.wrap_i64]; omega
                  have q := Lib.hid (And.intro (show ¬ s = 0 by omega) (And.intro (show s = α by omega) (And.intro (show ¬ M = s by omega) (show M = s + β by omega))))
                  have G1 := Lib.hid (HBe.out.n1 (.inl q.out.2.1))
                  have TK : True := trivial
                  clear hen hst hmid hme hbe hs1 hbn hss hMd hnn hp1 hp2 hp3 hp4 hA hB
                  go_wp2_with (first | (go_at_call 103; clear TK; refine (HBe.out.c2 _ G1.out q.out.1 q.out.2.2.1).mono ?_; rintro e w2 ⟨rfl, hS⟩; have G2 := Lib.hid hS; clear hS; have G3 := Lib.hid (HBe.out.n3 _ G2.out (.inl q.out.2.1))))
                  refine bodyPost_end (results_none rfl _ _ _) rfl ?_
                  exact ⟨rfl, by simpa using G3.out⟩
end Go.Proofs.Ytiejjbdmkgdniaa
set_option linter.unusedVariables false
set_option linter.unusedSimpArgs false
namespace Go.Proofs.Ytiejjbdmkgdniaa
open Go.RowKit Go.Sal Go.Huf
theorem sym_any {key : Nat → Int} {m0 base g n cap bx : Nat} (hn : n ≤ 1000000) (hk : ∀ z < m0, -100 ≤ key z ∧ key z ≤ 100) : ∀ N, SymOK key m0 base g n cap bx N
  | 0 => fun A B P R w h hA hB => by omega
  | N + 1 => fun A B P R w h hA hB hrow hc hT => by
    have IH := sym_any (base := base) (g := g) (cap := cap) (bx := bx) hn hk N
    rcases Nat.lt_or_ge N (A.length + B.length) with h1 | h1
    · by_cases hA1 : A.length = 1
      · obtain ⟨x, rfl⟩ := List.length_eq_one_iff.1 hA1
        exact sym_one key m0 base g n cap bx x B P R w hrow hc hT.lt hk hT.sb (fun y hy => hT.ab x (by simp) y hy) hn
      · by_cases hB1 : B.length = 1
        · obtain ⟨y, rfl⟩ := List.length_eq_one_iff.1 hB1
          exact sym_last key m0 base g n cap bx y A P R w hrow hc hT.lt hk hT.sa (fun z hz => hT.ab z hz y (by simp)) hn hA1
        · exact sym_gen IH hn hk A B P R w (by omega) (by omega) (by omega) hrow hc hT
    · exact IH A B P R w h1 hA hB hrow hc hT
section
variable {key : Nat → Int} {m base g n cap bx : Nat} {w wr : World}
/-- a block sorted -/
theorem stab_ins {P X R : List Nat} (hS : SR w base g n cap (P ++ X ++ R) wr) (hc : Cmp g w key m bx) (hm : ∀ x ∈ X, x < m) (hk : ∀ x < m, -100 ≤ key x ∧ key x ≤ 100) (hX : X.Pairwise (· < ·)) (hn : n ≤ 1000000) {a b : Nat} (ha : a = P.length) (hb : b = P.length + X.length) :
    Calls Try.prog 102 #[.slice (some ⟨g, 0, none⟩) n cap, .int .i64 (a : Nat), .int .i64 (b : Nat), .func (.func 87) #[] #[.pointer (some ⟨bx, 0, none⟩)]] wr fun e w' => e = .returned (.tuple #[]) ∧ SR w base g n cap (P ++ isort key X ++ R) w' := by
  subst ha hb
  refine (inssort_any key m base g n cap bx P X R wr hS.1 (hc.keep hS.2) hm hk hX hn).mono ?_
  rintro e w' ⟨rfl, hr, hk2⟩
  exact ⟨rfl, hr, hS.2.trans hk2⟩
/-- two blocks merged -/
theorem stab_merge {P X Y R : List Nat} (hS : SR w base g n cap (P ++ (isort key X ++ isort key Y) ++ R) wr) (hc : Cmp g w key m bx) (hm : ∀ x ∈ X ++ Y, x < m) (hk : ∀ x < m, -100 ≤ key x ∧ key x ≤ 100) (hX : (X ++ Y).Pairwise (· < ·)) (hn : n ≤ 1000000) (h1 : 0 < X.length) (h2 : 0 < Y.length) {a b c : Nat} (ha : a = P.length) (hb : b = P.length + X.length) (hcc : c = P.length + X.length + Y.length) :
    Calls Try.prog 103 #[.slice (some ⟨g, 0, none⟩) n cap, .int .i64 (a : Nat), .int .i64 (b : Nat), .int .i64 (c : Nat), .func (.func 87) #[] #[.pointer (some ⟨bx, 0, none⟩)]] wr fun e w' => e = .returned (.tuple #[]) ∧ SR w base g n cap (P ++ isort key (X ++ Y) ++ R) w' := by
  subst ha hb hcc
  have hnd : (X ++ Y).Nodup := hX.imp (fun h => by omega)
  have hnd' := List.nodup_append.1 hnd
  have hT : Two key m (isort key X) (isort key Y) := ⟨fun x hx => hm x (by
      rcases List.mem_append.1 hx with hx | hx
      · exact List.mem_append_left _ ((isort_perm X).mem_iff.1 hx)
      · exact List.mem_append_right _ ((isort_perm Y).mem_iff.1 hx)), isort_srtd hnd'.1, isort_srtd hnd'.2.1, fun x hx y hy => (List.pairwise_append.1 hX).2.2 x ((isort_perm X).mem_iff.1 hx) y ((isort_perm Y).mem_iff.1 hy)⟩
  have := sym_any hn hk (X.length + Y.length) (isort key X) (isort key Y) P R wr (by rw [isort_len, isort_len]; omega) (by rw [isort_len]; exact h1) (by rw [isort_len]; exact h2) hS.1 (hc.keep hS.2) hT
  rw [isort_len, isort_len] at this
  refine this.mono ?_
  rintro e w' ⟨rfl, hr, hk2⟩
  rw [isort_two hnd] at hr
  exact ⟨rfl, hr, hS.2.trans hk2⟩
end
/-- while blocks are merged: k pairs of them are -/
def MG (w : World) (base g n cap : Nat) (key : Nat → Int) (l : List Nat) (s k : Nat) (wr : World) : Prop := SR w base g n cap (sb key (2 * s) (l.take (k * (2 * s))) ++ sb key s (l.drop (k * (2 * s)))) wr
section
variable {key : Nat → Int} {m base g n cap bx : Nat} {w wr : World} {l : List Nat} {s k : Nat}
theorem MG.next (h : MG w base g n cap key l s k wr) (hs : 0 < s) (hc : Cmp g w key m bx) (hm : ∀ x ∈ l, x < m) (hk : ∀ x < m, -100 ≤ key x ∧ key x ≤ 100) (hl : l.Pairwise (· < ·)) (hn : n ≤ 1000000) (hb : k * (2 * s) + 2 * s ≤ l.length) {a b c : Nat} (ha : a = k * (2 * s)) (hb' : b = a + s) (hcc : c = a + 2 * s) :
    Calls Try.prog 103 #[.slice (some ⟨g, 0, none⟩) n cap, .int .i64 (a : Nat), .int .i64 (b : Nat), .int .i64 (c : Nat), .func (.func 87) #[] #[.pointer (some ⟨bx, 0, none⟩)]] wr fun e w' => e = .returned (.tuple #[]) ∧ MG w base g n cap key l s (k + 1) w' := by
  subst ha
  subst hb' hcc
  have hd : (l.drop (k * (2 * s))).length = l.length - k * (2 * s) := List.length_drop
  have hS := h
  unfold MG at hS
  rw [sb_two (l := l.drop (k * (2 * s))) hs (by omega)] at hS
  have hpl : (sb key (2 * s) (l.take (k * (2 * s)))).length = k * (2 * s) := by rw [sb_len (by omega), List.length_take]; omega
  have hx : ((l.drop (k * (2 * s))).take s).length = s := by rw [List.length_take]; omega
  have hy : (((l.drop (k * (2 * s))).drop s).take s).length = s := by rw [List.length_take, List.length_drop]; omega
  have hxy : (l.drop (k * (2 * s))).take s ++ ((l.drop (k * (2 * s))).drop s).take s = (l.drop (k * (2 * s))).take (s + s) := (take_two _ s s).symm
  have hsub : ((l.drop (k * (2 * s))).take (s + s)).Sublist l := (List.take_sublist _ _).trans (List.drop_sublist _ _)
  have := stab_merge (P := sb key (2 * s) (l.take (k * (2 * s)))) (X := (l.drop (k * (2 * s))).take s) (Y := ((l.drop (k * (2 * s))).drop s).take s) (R := sb key s ((l.drop (k * (2 * s))).drop (s + s))) (by simpa using hS) hc
    (by rw [hxy]; exact fun x hx => hm x (hsub.mem hx)) hk (by rw [hxy]; exact hl.sublist hsub) hn (by omega) (by omega) hpl.symm (b := k * (2 * s) + s) (by rw [hpl, hx]) (c := k * (2 * s) + 2 * s) (by rw [hpl, hx, hy]; omega)
  refine this.mono ?_
  rintro e w' ⟨rfl, hr⟩
  refine ⟨rfl, ?_⟩
  unfold MG
  rw [hxy, List.drop_drop] at hr
  rw [show (k + 1) * (2 * s) = k * (2 * s) + 2 * s by rw [Nat.add_mul]; omega, sb_next (by omega) (by omega)]
  rw [show s + s = 2 * s by omega] at hr
  exact hr
theorem MG.last (h : MG w base g n cap key l s k wr) (hs : 0 < s) (hc : Cmp g w key m bx) (hm : ∀ x ∈ l, x < m) (hk : ∀ x < m, -100 ≤ key x ∧ key x ≤ 100) (hl : l.Pairwise (· < ·)) (hn : n ≤ 1000000) (hnl : n = l.length) (hb : l.length < k * (2 * s) + 2 * s) (hb2 : k * (2 * s) + s < l.length) {a b : Nat} (ha : a = k * (2 * s)) (hb' : b = a + s) :
    Calls Try.prog 103 #[.slice (some ⟨g, 0, none⟩) n cap, .int .i64 (a : Nat), .int .i64 (b : Nat), .int .i64 (n : Nat), .func (.func 87) #[] #[.pointer (some ⟨bx, 0, none⟩)]] wr fun e w' => e = .returned (.tuple #[]) ∧ SR w base g n cap (sb key (2 * s) l) w' := by
  subst ha
  subst hb'
  have hd : (l.drop (k * (2 * s))).length = l.length - k * (2 * s) := List.length_drop
  have hS := h
  unfold MG at hS
  rw [sb_two (l := l.drop (k * (2 * s))) hs (by omega), List.drop_drop (i := s + s), List.drop_of_length_le (i := k * (2 * s) + (s + s)) (by omega), sb_nil] at hS
  have hpl : (sb key (2 * s) (l.take (k * (2 * s)))).length = k * (2 * s) := by rw [sb_len (by omega), List.length_take]; omega
  have hx : ((l.drop (k * (2 * s))).take s).length = s := by rw [List.length_take]; omega
  have hy : (((l.drop (k * (2 * s))).drop s).take s).length = l.length - k * (2 * s) - s := by rw [List.length_take, List.length_drop]; omega
  have hxy : (l.drop (k * (2 * s))).take s ++ ((l.drop (k * (2 * s))).drop s).take s = l.drop (k * (2 * s)) := by
    rw [← take_two]; exact List.take_of_length_le (by omega)
  have hsub : (l.drop (k * (2 * s))).Sublist l := List.drop_sublist _ _
  have := stab_merge (P := sb key (2 * s) (l.take (k * (2 * s)))) (X := (l.drop (k * (2 * s))).take s) (Y := ((l.drop (k * (2 * s))).drop s).take s) (R := []) (by simpa using hS) hc
    (by rw [hxy]; exact fun x hx => hm x (hsub.mem hx)) hk (by rw [hxy]; exact hl.sublist hsub) hn (by omega) (by omega) hpl.symm (b := k * (2 * s) + s) (by rw [hpl, hx]) (c := n) (by rw [hpl, hx, hy, hnl]; omega)
  refine this.mono ?_
  rintro e w' ⟨rfl, hr⟩
  refine ⟨rfl, ?_⟩
  rw [hxy, List.append_nil] at hr
  rw [sb_rest (s := 2 * s) (k := k) (by omega) (by omega) (by omega)]
  exact hr
theorem MG.none (h : MG w base g n cap key l s k wr) (hs : 0 < s) (hb : l.length ≤ k * (2 * s) + s) (ha : k * (2 * s) ≤ l.length) : SR w base g n cap (sb key (2 * s) l) wr := by
  unfold MG at h
  rw [sb_small (l := l.drop (k * (2 * s))) hs (by rw [List.length_drop]; omega)] at h
  rw [sb_rest (s := 2 * s) (k := k) (by omega) ha (by omega)]
  exact h
end

set_option maxRecDepth 20000 in
set_option maxHeartbeats 4000000 in
theorem stab_any : StabOK 1000000 := fun key m base g n cap bx l w h hc hm hk hl hn => by
  have hnl := row_n h
  have Hc := Lib.hid hc
  have Hm := Lib.hid hm
  have Hk := Lib.hid hk
  have Hl := Lib.hid hl
  have Hnl := Lib.hid hnl
  have H0 : Hid (SR w base g n cap (sb key 20 (l.take 0) ++ l.drop 0) w) := Lib.hid ⟨by rw [List.take_zero, sb_nil]; exact h, Keep.refl _ _⟩
  clear h hc hm hk hl hnl
  go_enter Try.func99, Try.ntmps99
  go_wp2
  go_loopw [7, 8] (fun va vb wr => ∃ k a b : Nat, va = .int .i64 a ∧ vb = .int .i64 b ∧ a ≤ n ∧ Hid (a = k * 20 ∧ b = a + 20) ∧ Hid (SR w base g n cap (sb key 20 (l.take a) ++ l.drop a) wr)) (fun va _ _ => n - (intOf va).toNat)
  case atStart => exact ⟨0, 0, 20, rfl, rfl, by omega, Lib.hid ⟨rfl, rfl⟩, H0⟩
  case round =>
    obtain ⟨k, a, b, rfl, rfl, han, hab, hI⟩ := hrel
    clear H0
    rcases Nat.lt_or_ge n b with hlt | hge
    · -- the last block
      have HI2 : Hid (Calls Try.prog 102 #[.slice (some ⟨g, 0, none⟩) n cap, .int .i64 (a : Nat), .int .i64 (n : Nat), .func (.func 87) #[] #[.pointer (some ⟨bx, 0, none⟩)]] wr fun e w' => e = .returned (.tuple #[]) ∧ SR w base g n cap (sb key 20 l) w') := by
        have hnl := Hnl.out
        have hab := hab.out
        have := stab_ins (P := sb key 20 (l.take a)) (X := l.drop a) (R := []) (by simpa using hI.out) Hc.out (fun x hx => Hm.out x ((List.drop_sublist _ _).mem hx)) Hk.out (Hl.out.sublist (List.drop_sublist _ _)) hn (a := a) (b := n) (by rw [sb_len (by omega), List.length_take]; omega) (by rw [sb_len (by omega), List.length_take, List.length_drop]; omega)
        refine Lib.hid (this.mono ?_)
        rintro e w' ⟨rfl, hr⟩
        refine ⟨rfl, ?_⟩
        rw [List.append_nil] at hr
        rw [sb_rest (s := 20) (k := k) (by omega) (by omega) (by omega), ← hab.1]
        exact hr
      have hltn : ¬ (b : Int) ≤ n := by omega
      clear hI hab hlt
      go_wp2_with (go_at_call 102; refine HI2.out.mono ?_; rintro e w2 ⟨rfl, hS⟩; have HS := Lib.hid hS; clear hS)
      clear HI2
      go_loopw [6] (fun vs wr => ∃ s : Nat, vs = .int .i64 s ∧ 0 < s ∧ s ≤ 2000000 ∧ Hid (SR w base g n cap (sb key s l) wr)) (fun vs _ => 2 * n - (intOf vs).toNat)
      case atStart => exact ⟨20, rfl, by omega, by omega, HS⟩
      case round =>
        obtain ⟨s, rfl, hs0, hsm, hJ⟩ := hrel
        clear HS
        rcases Nat.lt_or_ge s n with hsn | hsn
        · as_aux_lemma =>
            obtain ⟨s2, hs2⟩ : ∃ s2, s2 = 2 * s := ⟨_, rfl⟩
            have hw2 : IntKind.i64.wrap (2 * (s : Int)) = (s2 : Int) := by rw [IntKind.wrap_i64]; omega
            have hw3 : IntKind.i64.wrap ((s : Int) * 2) = (s2 : Int) := by rw [IntKind.wrap_i64]; omega
            have H1 : Hid (MG w base g n cap key l s 0 wr) := by
              have := hJ.out
              refine Lib.hid ?_
              unfold MG
              rw [Nat.zero_mul, List.take_zero, sb_nil]
              exact this
            have Hs2 := Lib.hid hs2
            have hsni : (s : Int) < n := by omega
            clear hJ hs2
            go_wp2_with fail
            go_loopw [7, 8] (fun va vb wr => ∃ k a b : Nat, va = .int .i64 a ∧ vb = .int .i64 b ∧ a ≤ n ∧ Hid (a = k * (2 * s) ∧ b = a + s2) ∧ Hid (MG w base g n cap key l s k wr)) (fun va _ _ => n - (intOf va).toNat)
            case atStart => exact ⟨0, 0, s2, rfl, rfl, by omega, Lib.hid ⟨by simp, by simp⟩, H1⟩
            case round =>
              obtain ⟨k, a, b, rfl, rfl, han, hab, hM⟩ := hrel
              clear H1
              obtain ⟨aS, has⟩ : ∃ aS, aS = a + s := ⟨_, rfl⟩
              rcases Nat.lt_or_ge n b with hlt | hge
              · have hltn : ¬ (b : Int) ≤ n := by omega
                rcases Nat.lt_or_ge aS n with h1 | h1
                · as_aux_lemma =>
                    have HX := Lib.hid (hM.out.last hs0 Hc.out Hm.out Hk.out Hl.out hn Hnl.out (by have := hab.out; have := Hs2.out; have := Hnl.out; omega) (by have := hab.out; have := Hnl.out; omega) hab.out.1 has)
                    have hwas : IntKind.i64.wrap ((a : Int) + s) = (aS : Int) := by rw [IntKind.wrap_i64]; omega
                    have h1i : (aS : Int) < n := by omega
                    clear hM hab has hlt
                    go_wp2_with (go_at_call 103; refine HX.out.mono ?_; rintro e w3 ⟨rfl, hS⟩; have HS := Lib.hid hS; clear hS)
                    go_roundw
                    case rel => exact ⟨s2, rfl, by have := Hs2.out; omega, by have := Hs2.out; omega, by rw [Hs2.out]; exact HS⟩
                    case measure => have := Hs2.out; simp [intOf]; omega
                · as_aux_lemma =>
                    have HX := Lib.hid (hM.out.none hs0 (by have := hab.out; have := Hnl.out; omega) (by have := hab.out; have := Hnl.out; omega))
                    have hwas : IntKind.i64.wrap ((a : Int) + s) = (aS : Int) := by rw [IntKind.wrap_i64]; omega
                    have h1i : ¬ (aS : Int) < n := by omega
                    clear hM hab has hlt
                    go_wp2_with fail
                    go_roundw
                    case rel => exact ⟨s2, rfl, by have := Hs2.out; omega, by have := Hs2.out; omega, by rw [Hs2.out]; exact HX⟩
                    case measure => have := Hs2.out; simp [intOf]; omega
              · as_aux_lemma =>
                  have hbb := hab.out.2
                  have HX := Lib.hid (hM.out.next hs0 Hc.out Hm.out Hk.out Hl.out hn (by have := hab.out; have := Hs2.out; have := Hnl.out; omega) hab.out.1 has (c := b) (by have := Hs2.out; omega))
                  have hwas : IntKind.i64.wrap ((a : Int) + s) = (aS : Int) := by rw [IntKind.wrap_i64]; omega
                  have hgei : (b : Int) ≤ n := by omega
                  have hwb : IntKind.i64.wrap ((b : Int) + s2) = ((b + s2 : Nat) : Int) := by rw [IntKind.wrap_i64]; have := Hs2.out; omega
                  have Hab : Hid (b = (k + 1) * (2 * s) ∧ a < b) := Lib.hid (by have := hab.out; have := Hs2.out; rw [Nat.add_mul]; omega)
                  clear hM hab has hbb
                  go_wp2_with (go_at_call 103; refine HX.out.mono ?_; rintro e w3 ⟨rfl, hS⟩; have HS := Lib.hid hS; clear hS)
                  exact ⟨⟨k + 1, b, b + s2, rfl, by simp, by omega, Lib.hid ⟨Hab.out.1, rfl⟩, HS⟩, by have := Hab.out.2; simp [intOf]; omega⟩
        · have HR : Hid (SR w base g n cap (isort key l) wr) := by
            have := hJ.out
            rw [sb_small hs0 (by have := Hnl.out; omega)] at this
            exact Lib.hid this
          have hsni : ¬ (s : Int) < n := by omega
          clear hJ
          go_wp2_with fail
          refine bodyPost_end (results_none rfl _ _ _) rfl ?_
          exact ⟨rfl, HR.out⟩
    · as_aux_lemma =>
        have HI2 : Hid (Calls Try.prog 102 #[.slice (some ⟨g, 0, none⟩) n cap, .int .i64 (a : Nat), .int .i64 (b : Nat), .func (.func 87) #[] #[.pointer (some ⟨bx, 0, none⟩)]] wr fun e w' => e = .returned (.tuple #[]) ∧ SR w base g n cap (sb key 20 (l.take b) ++ l.drop b) w') := by
          have hnl := Hnl.out
          have hab := hab.out
          have hsub : ((l.drop a).take 20).Sublist l := (List.take_sublist _ _).trans (List.drop_sublist _ _)
          have hdd : (l.drop a).take 20 ++ l.drop b = l.drop a := by
            rw [hab.2, ← List.drop_drop]
            exact List.take_append_drop _ _
          have := stab_ins (P := sb key 20 (l.take a)) (X := (l.drop a).take 20) (R := l.drop b) (by rw [List.append_assoc, hdd]; exact hI.out) Hc.out (fun x hx => Hm.out x (hsub.mem hx)) Hk.out (Hl.out.sublist hsub) hn (a := a) (b := b) (by rw [sb_len (by omega), List.length_take]; omega) (by rw [sb_len (by omega), List.length_take, List.length_take, List.length_drop]; omega)
          refine Lib.hid (this.mono ?_)
          rintro e w' ⟨rfl, hr⟩
          refine ⟨rfl, ?_⟩
          rw [hab.2, hab.1, sb_next (by omega) (by omega), ← hab.1, ← hab.2]
          exact hr
        have hgei : (b : Int) ≤ n := by omega
        have hwb : IntKind.i64.wrap ((b : Int) + 20) = ((b + 20 : Nat) : Int) := by rw [IntKind.wrap_i64]; omega
        have Hab : Hid (b = (k + 1) * 20 ∧ a < b) := Lib.hid (by have := hab.out; omega)
        clear hI hab
        go_wp2_with (go_at_call 102; refine HI2.out.mono ?_; rintro e w2 ⟨rfl, hS⟩; have HS := Lib.hid hS; clear hS)
        exact ⟨⟨k + 1, b, b + 20, rfl, by simp, by omega, Lib.hid ⟨Hab.out.1, rfl⟩, HS⟩, by have := Hab.out.2; simp [intOf]; omega⟩
theorem stab_k : StabOK 100000 := fun key m base g n cap bx l w h hc hm hk hl hn => stab_any key m base g n cap bx l w h hc hm hk hl (by omega)
end Go.Proofs.Ytiejjbdmkgdniaa
