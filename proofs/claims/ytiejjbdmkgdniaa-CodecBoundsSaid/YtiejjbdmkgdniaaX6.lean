/- CodecBack, walked. -/
import Derived.Test.YtiejjbdmkgdniaaArg
import Derived.Test.YtiejjbdmkgdniaaW6
import Derived.Test.YtiejjbdmkgdniaaW7
set_option linter.unusedVariables false
set_option linter.unusedSimpArgs false
namespace Go.Proofs.Ytiejjbdmkgdniaa
open Go.RowKit Go.Sal Go.Huf Go.Cod
theorem own_blk_lt {w : World} {base size n c : Nat} {e : TypeId} {A : Option Addr} {xs : List Value} (h : w.ownsRow base e size (.slice A n c) n xs) : ∀ a, A = some a → a.block < w.heap.size := fun a ha => by
  subst ha
  exact (h.lt a.block rfl).2
theorem own_cap' {w : World} {base size n c : Nat} {e : TypeId} {A : Option Addr} {xs : List Value} (h : w.ownsRow base e size (.slice A n c) n xs) : n ≤ c := by
  rcases h.2 with ⟨h0, _⟩ | ⟨g, cap, cur, h0, _, _, h1, _⟩
  · injection h0 with _ h1 h2
    omega
  · injection h0 with _ _ h2
    omega
/-- a row is decoded as it was encoded -/
theorem back_bytes (bl : List Nat) (hb : ∀ x ∈ bl, x < 256) (hl : bl.length ≤ 700) (A : Option Addr) (c : Nat) (w : World) (hs : BySrc w A bl) (hc : bl.length ≤ c) :
    Calls Try.prog 18 #[.slice A bl.length c] w fun e w' => ∃ A2 c2, e = .returned (.tuple #[.slice A2 (encP bl).length c2, .int .i64 0]) ∧ Keep [] w w' ∧
      Calls Try.prog 20 #[.slice A2 (encP bl).length c2] w' fun e w2 => ∃ A3 c3, e = .returned (.tuple #[.slice A3 bl.length c3, .int .i64 0]) ∧ BySrc w2 A3 bl ∧ Keep [] w' w2 := by
  refine (encode_any bl A c w hs hc (by omega)).mono ?_
  rintro e w' ⟨A2, c2, rfl, ho, hk⟩
  refine ⟨A2, c2, rfl, hk, ?_⟩
  have h1 := enc_len (b := bl) (by omega)
  refine (decode_any (encP bl) A2 c2 w' (bsrc_own ho (enc_lt hb (by omega))) (own_cap' ho) (own_blk_lt ho) (by omega)).mono ?_
  have hd := dec_yes (dec_back hb (by omega))
  rw [hd.1, hd.2]
  rintro e w2 ⟨A3, c3, rfl, ho3, hk3⟩
  exact ⟨A3, c3, rfl, bsrc_own ho3 hb, hk3⟩
/-- tokens are unpacked as they were packed -/
theorem back_toks (l : List Tk) (hl : l.length ≤ 80) (hz : sizeE l = 0) (A : Option Addr) (c : Nat) (w : World) (hs : TSrc w A l) :
    Calls Try.prog 11 #[.slice A l.length c] w fun e w' => ∃ A2 n2 c2, e = .returned (.tuple #[.slice A2 n2 c2, .int .i64 0]) ∧ Keep [] w w' ∧
      Calls Try.prog 15 #[.slice A2 n2 c2] w' fun e w2 => ∃ A3 c3, e = .returned (.tuple #[.slice A3 l.length c3, .int .i64 0]) ∧ TSrc w2 A3 l ∧ Keep [] w' w2 := by
  have hlit : litOk l := fun t ht => (hs.2 t ht).2.2
  have hsm := pack_small (l := l) (by omega) hz hlit
  obtain ⟨u1, u2⟩ := unp_back (l := l) (by omega) hz hlit (by omega)
  have hpr : packR l = packP l := by unfold packR; rw [if_pos hz]
  refine (packR_any l A c w hs (by omega)).mono ?_
  rw [hz, hpr]
  rintro e w' ⟨A2, c2, rfl, ho, hk⟩
  refine ⟨A2, _, c2, rfl, hk, ?_⟩
  have hlt := packR_lt (l := l) (by omega)
  rw [hpr] at hlt
  refine (unpack_any (packP l) A2 c2 w' (bsrc_own ho hlt) (own_cap' ho) (own_blk_lt ho) (by omega)).mono ?_
  rw [u1, u2]
  rintro e w2 ⟨A3, c3, rfl, ho3, hk3⟩
  exact ⟨A3, c3, rfl, tsrc_own ho3 rfl hs.2, hk3⟩
set_option maxRecDepth 20000 in
set_option maxHeartbeats 2000000 in
theorem law6_any (v1 : Value) (l0 : List Tk) (v2 : Value) (b0 : List Nat) (w : World) (h1 : TokArg w v1 l0) (h2 : BytArg w v2 b0) : Calls Try.prog 6 #[v1, v2] w fun e w' => e = .returned (.bool true) ∧ Keep [] w w' := by
  have Hf := Lib.hid (few_arg h1)
  have Hg := Lib.hid (cut_arg h2)
  clear h1 h2
  have hl : (l0.take 80).length ≤ 80 := by rw [List.length_take]; omega
  have hb : (b0.take 700).length ≤ 700 := by rw [List.length_take]; omega
  generalize l0.take 80 = l at *
  generalize b0.take 700 = bl at *
  have HB := Lib.hid (fun (A : Option Addr) (c : Nat) (w : World) (hs : BySrc w A bl) (hc : bl.length ≤ c) => back_bytes bl hs.2 hb A c w hs hc)
  have hel : (encP bl).length ≤ bl.length + 4 := enc_len (by omega)
  have hwb : IntKind.i64.wrap ((bl.length : Int) + 4) = (bl.length : Int) + 4 := by rw [IntKind.wrap_i64]; omega
  have hgb : decide (((encP bl).length : Int) > (bl.length : Int) + 4) = false := decide_eq_false (by omega)
  have hgn : ¬ bl.length + 4 < (encP bl).length := by omega
  have hgi : ¬ ((bl.length : Int) + 4 < ((encP bl).length : Int)) := by omega
  generalize (encP bl).length = en at *
  by_cases hz : sizeE l = 0
  · have HP := Lib.hid (fun (A : Option Addr) (c : Nat) (w : World) (hs : TSrc w A l) => back_toks l hl hz A c w hs)
    have HS := Lib.hid (fun (A B : Option Addr) (ca cb : Nat) (w : World) (ha : TSrc w A l) (hb : TSrc w B l) => same_eq l A B ca cb w ha hb (by omega))
    clear hz
    go_enter Try.func6, Try.ntmps6
    go_upto_region 2 with (first
      | (go_at_call 10; refine Hf.out.mono ?_; rintro e w1 ⟨A, c, rfl, _, hs, rfl⟩; have Hs := Lib.hid hs; clear hs)
      | (go_at_call 14; refine Hg.out.mono ?_; rintro e w1 ⟨B, d, rfl, hd, hs2, _, rfl⟩; have Hb := Lib.hid hs2; clear hs2))
    go_upto_region 3 with (go_at_call 18; refine (HB.out B d _ Hb.out hd).mono ?_; rintro e w2 ⟨A2, c2, rfl, hk2, hD⟩; have H2 := Lib.hid (And.intro hk2 hD); clear hk2 hD)
    go_upto_region 4 with (go_at_call 20; refine H2.out.2.mono ?_; rintro e w3 ⟨A3, c3, rfl, hs3, hk3⟩; have H3 := Lib.hid (And.intro (H2.out.1.trans hk3) hs3); clear hk3 hs3)
    have e1 := str_src H3.out.2 c3
    have e2 := str_src (Hb.out.keep H3.out.1 (by simp)) d
    generalize strN bl = S at *
    go_upto_region 6 with (fail)
    clear e1 e2 hgi hgn hgb hwb
    go_upto_region 9 with (go_at_call 11; refine (HP.out A c _ (Hs.out.keep H3.out.1 (by simp))).mono ?_; rintro e w4 ⟨A4, n4, c4, rfl, hk4, hU⟩; have H4 := Lib.hid (And.intro (H3.out.1.trans hk4) hU); clear hk4 hU)
    go_wp2_with (first
      | (go_at_call 15; refine H4.out.2.mono ?_; rintro e w5 ⟨A5, c5, rfl, ht5, hk5⟩; have H5 := Lib.hid (And.intro (H4.out.1.trans hk5) ht5); clear hk5 ht5)
      | (go_at_call 17; refine (HS.out A A5 c c5 _ (Hs.out.keep H5.out.1 (by simp)) H5.out.2).mono ?_; rintro e w6 ⟨rfl, hk6⟩; have H6 := Lib.hid (H5.out.1.trans hk6); clear hk6)
      | (go_at_call 13; refine (alive_any _).mono ?_; rintro e w7 ⟨rfl, hk7⟩; have Hk7 := Lib.hid (H6.out.trans hk7); clear hk7))
    go_ret
    exact ⟨rfl, Hk7.out⟩
  · have HP := Lib.hid (fun (A : Option Addr) (c : Nat) (w : World) (hs : TSrc w A l) => pack_bad l A c w hs (by omega) hz)
    have hzb : (sizeE l != 0) = true := by simpa using hz
    generalize sizeE l = E at *
    clear hz
    go_enter Try.func6, Try.ntmps6
    go_upto_region 2 with (first
      | (go_at_call 10; refine Hf.out.mono ?_; rintro e w1 ⟨A, c, rfl, _, hs, rfl⟩; have Hs := Lib.hid hs; clear hs)
      | (go_at_call 14; refine Hg.out.mono ?_; rintro e w1 ⟨B, d, rfl, hd, hs2, _, rfl⟩; have Hb := Lib.hid hs2; clear hs2))
    go_upto_region 3 with (go_at_call 18; refine (HB.out B d _ Hb.out hd).mono ?_; rintro e w2 ⟨A2, c2, rfl, hk2, hD⟩; have H2 := Lib.hid (And.intro hk2 hD); clear hk2 hD)
    go_upto_region 4 with (go_at_call 20; refine H2.out.2.mono ?_; rintro e w3 ⟨A3, c3, rfl, hs3, hk3⟩; have H3 := Lib.hid (And.intro (H2.out.1.trans hk3) hs3); clear hk3 hs3)
    have e1 := str_src H3.out.2 c3
    have e2 := str_src (Hb.out.keep H3.out.1 (by simp)) d
    generalize strN bl = S at *
    go_upto_region 6 with (fail)
    clear e1 e2 hgi hgn hgb hwb
    go_wp2_with (first
      | (go_at_call 11; refine (HP.out A c _ (Hs.out.keep H3.out.1 (by simp))).mono ?_; rintro e w4 ⟨rfl, hk4⟩; have H4 := Lib.hid (H3.out.1.trans hk4); clear hk4)
      | (go_at_call 13; refine (alive_any _).mono ?_; rintro e w7 ⟨rfl, hk7⟩; have Hk7 := Lib.hid (H4.out.trans hk7); clear hk7))
    go_ret
    exact ⟨rfl, Hk7.out⟩
end Go.Proofs.Ytiejjbdmkgdniaa
