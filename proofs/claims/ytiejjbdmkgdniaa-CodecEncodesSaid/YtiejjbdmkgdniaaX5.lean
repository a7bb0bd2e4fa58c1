/- CodecEncodes, walked. -/
import Derived.Test.YtiejjbdmkgdniaaArg
import Derived.Test.YtiejjbdmkgdniaaW6
import Derived.Test.YtiejjbdmkgdniaaY1
set_option linter.unusedVariables false
set_option linter.unusedSimpArgs false
namespace Go.Proofs.Ytiejjbdmkgdniaa
open Go.RowKit Go.Sal Go.Huf Go.Cod
set_option maxRecDepth 20000 in
set_option maxHeartbeats 2000000 in
theorem law5_any (v : Value) (l0 : List Nat) (w : World) (h : BytArg w v l0) : Calls Try.prog 5 #[v] w fun e w' => e = .returned (.bool true) ∧ Keep [] w w' := by
  have Hf := Lib.hid (cut_arg h)
  clear h
  have hl : (l0.take 700).length ≤ 700 := by rw [List.length_take]; omega
  generalize l0.take 700 = l at *
  have HP := Lib.hid (fun (A : Option Addr) (c : Nat) (w1 : World) (h : BySrc w1 A l) (hc : l.length ≤ c) => encode_any l A c w1 h hc (by omega))
  have HR := Lib.hid (fun (A : Option Addr) (c : Nat) (w1 : World) (h : BySrc w1 A l) => rencode_any l A c w1 h (by omega))
  have Hlt : Hid ((∀ x ∈ l, x < 256) → ∀ y ∈ encP l, y < 256) := Lib.hid (fun h => enc_lt h (by omega))
  generalize encP l = p at *
  go_enter Try.func5, Try.ntmps5
  go_upto_region 2 with (go_at_call 14; refine Hf.out.mono ?_; rintro e w1 ⟨A, c, rfl, hc, hs, hA, rfl⟩; have Hs := Lib.hid hs; clear hs hA)
  have Hlt2 := Lib.hid (Hlt.out Hs.out.2)
  go_upto_region 3 with (go_at_call 18; refine (HP.out A c _ Hs.out hc).mono ?_; rintro e w1 ⟨A1, c1, rfl, ho1, hk1⟩; have H1 := Lib.hid (And.intro (bsrc_own ho1 Hlt2.out) hk1); clear ho1 hk1)
  go_upto_region 4 with (go_at_call 19; refine (HR.out A c _ (Hs.out.keep H1.out.2 (by simp))).mono ?_; rintro e w2 ⟨A2, c2, rfl, ho2, hk2⟩; have H2 := Lib.hid (And.intro (H1.out.1.keep hk2 (by simp)) (And.intro (bsrc_own ho2 Hlt2.out) (H1.out.2.trans hk2))); clear ho2 hk2)
  have e1 := str_src H2.out.1 c1
  have e2 := str_src H2.out.2.1 c2
  generalize strN p = S at *
  go_wp2_with (go_at_call 13; refine (alive_any _).mono ?_; rintro e w4 ⟨rfl, hk4⟩; have Hk4 := Lib.hid (H2.out.2.2.trans hk4); clear hk4)
  go_ret
  exact ⟨rfl, Hk4.out⟩
end Go.Proofs.Ytiejjbdmkgdniaa
