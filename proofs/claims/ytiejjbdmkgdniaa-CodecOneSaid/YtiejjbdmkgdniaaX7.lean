/- CodecOne, walked. -/
import Derived.Test.YtiejjbdmkgdniaaArg
import Derived.Test.YtiejjbdmkgdniaaW6
set_option linter.unusedVariables false
set_option linter.unusedSimpArgs false
namespace Go.Cod
theorem unp_bad {b : List Nat} (h : unpE b ≠ 0) : unpT b = [] := by
  unfold unpT
  unfold unpE at h
  cases hr : readP b with
  | none => rfl
  | some l =>
    rw [hr] at h
    simp only at h ⊢
    rw [if_neg]
    rintro ⟨h1, h2⟩
    rw [if_neg (by omega), if_pos h2] at h
    exact h rfl
end Go.Cod
namespace Go.Proofs.Ytiejjbdmkgdniaa
open Go.RowKit Go.Sal Go.Huf Go.Cod
set_option maxRecDepth 20000 in
set_option maxHeartbeats 2000000 in
theorem law7_any (v : Value) (l0 : List Nat) (w : World) (h : BytArg w v l0) : Calls Try.prog 7 #[v] w fun e w' => e = .returned (.bool true) ∧ Keep [] w w' := by
  have Hf := Lib.hid (cut_arg h)
  clear h
  have hl : (l0.take 700).length ≤ 700 := by rw [List.length_take]; omega
  generalize l0.take 700 = l at *
  have HU := Lib.hid (fun (A : Option Addr) (c : Nat) (w1 : World) (hs : BySrc w1 A l) (hc : l.length ≤ c) (hA : ∀ a, A = some a → a.block < w1.heap.size) => unpack_any l A c w1 hs hc hA (by omega))
  by_cases hu : unpE l = 0
  · obtain ⟨u1, u2, _⟩ := unp_one hu
    have htl : (unpT l).length ≤ 20000 := by have := unpT_cnt l; omega
    have hbd := unpT_bd hu
    have hpr : packR (unpT l) = l := by unfold packR; rw [if_pos u1, u2]
    have HP := Lib.hid (fun (A : Option Addr) (c : Nat) (w1 : World) (h : TSrc w1 A (unpT l)) => packR_any (unpT l) A c w1 h htl)
    rw [hpr, u1] at HP
    rw [hu] at HU
    have Hbd := Lib.hid hbd
    clear hu u1 u2 hpr hbd htl
    generalize unpT l = tl at *
    go_enter Try.func7, Try.ntmps7
    go_upto_region 2 with (go_at_call 14; refine Hf.out.mono ?_; rintro e w1 ⟨A, c, rfl, hc, hs, hA, rfl⟩; have Hs := Lib.hid (And.intro hs hA); clear hs hA)
    go_upto_region 5 with (go_at_call 15; refine (HU.out A c _ Hs.out.1 hc Hs.out.2).mono ?_; rintro e w1 ⟨A1, c1, rfl, ho1, hk1⟩; have H1 := Lib.hid (And.intro (tsrc_own ho1 rfl Hbd.out) (And.intro (Hs.out.1.keep hk1 (by simp)) hk1)); clear ho1 hk1)
    go_upto_region 6 with (go_at_call 11; refine (HP.out A1 c1 _ H1.out.1).mono ?_; rintro e w2 ⟨A2, c2, rfl, ho2, hk2⟩; have H2 := Lib.hid (And.intro (bsrc_own ho2 Hs.out.1.2) (And.intro (H1.out.2.1.keep hk2 (by simp)) (H1.out.2.2.trans hk2))); clear ho2 hk2)
    have e1 := str_src H2.out.1 c2
    have e2 := str_src H2.out.2.1 c
    generalize strN l = S at *
    go_wp2_with (go_at_call 13; refine (alive_any _).mono ?_; rintro e w4 ⟨rfl, hk4⟩; have Hk4 := Lib.hid (H2.out.2.2.trans hk4); clear hk4)
    go_ret
    exact ⟨rfl, Hk4.out⟩
  · have hnil := unp_bad hu
    have hub : (unpE l != 0) = true := by simpa using hu
    unfold RowT at HU
    rw [hnil] at HU
    simp only [List.length_nil] at HU
    clear hu hnil
    generalize unpE l = ue at *
    go_enter Try.func7, Try.ntmps7
    go_upto_region 2 with (go_at_call 14; refine Hf.out.mono ?_; rintro e w1 ⟨A, c, rfl, hc, hs, hA, rfl⟩; have Hs := Lib.hid (And.intro hs hA); clear hs hA)
    go_wp2_with (first
      | (go_at_call 15; refine (HU.out A c _ Hs.out.1 hc Hs.out.2).mono ?_; rintro e w1 ⟨A1, c1, rfl, ho1, hk1⟩; have H1 := Lib.hid hk1; clear ho1 hk1)
      | (go_at_call 13; refine (alive_any _).mono ?_; rintro e w4 ⟨rfl, hk4⟩; have Hk4 := Lib.hid (H1.out.trans hk4); clear hk4))
    go_ret
    exact ⟨rfl, Hk4.out⟩
end Go.Proofs.Ytiejjbdmkgdniaa
