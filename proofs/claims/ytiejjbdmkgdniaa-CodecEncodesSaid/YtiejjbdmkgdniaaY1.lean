/- Tokens and Encode, in the reference. -/
import Derived.Test.YtiejjbdmkgdniaaV2
import Derived.Test.YtiejjbdmkgdniaaCpc
set_option linter.unusedVariables false
set_option linter.unusedSimpArgs false
namespace Go.Proofs.Ytiejjbdmkgdniaa
open Go.RowKit Go.Sal Go.Huf Go.Cod
/-- what the reference's Tokens has so far -/
structure TkR (w : World) (bl : List Nat) (k : Nat) (A5 : Option Addr) (n5 c5 : Nat) (tl : List Tk) (wr : World) : Prop where
  len : n5 = tl.length
  rest : tokP bl = tl ++ tokF bl bl.length k
  own : wr.ownsRow w.heap.size 64 3 (.slice A5 n5 c5) n5 (tksC tl)
  kp : Keep [] w wr
  cnt : tl.length ≤ k
set_option maxRecDepth 20000 in
set_option maxHeartbeats 4000000 in
theorem rtokens_any (bl : List Nat) (AB : Option Addr) (cB : Nat) (w : World) (hs : BySrc w AB bl) (hl : bl.length ≤ 65536) :
    Calls Try.prog 53 #[.slice AB bl.length cB] w fun e w' => RowT w (tokP bl) 0 e w' := by
  have Hs := Lib.hid hs
  have h65 : ¬ (65536 : Int) < bl.length := by omega
  have H1 : Hid (TkR w bl 0 none 0 0 [] w) := Lib.hid ⟨rfl, rfl, World.ownsRow_nil _ _ _ _, Keep.refl _ _, by simp⟩
  clear hs
  go_enter Try.func53, Try.ntmps53
  go_wp2
  go_loopw [4, 5] (fun v5 v6 wr => ∃ (k n5 : Nat) (A5 : Option Addr) (c5 : Nat), v6 = .int .i64 k ∧ k ≤ bl.length ∧ v5 = .slice A5 n5 c5 ∧ Hid (∃ tl, TkR w bl k A5 n5 c5 tl wr)) (fun _ v6 _ => bl.length - (intOf v6).toNat)
  case atStart => exact ⟨0, 0, none, 0, rfl, by omega, rfl, Lib.hid ⟨[], H1.out⟩⟩
  case round =>
    obtain ⟨k, n5, A5, c5, rfl, hk, rfl, hI⟩ := hrel
    clear H1
    obtain ⟨tl, hT⟩ := hI.out
    rcases Nat.lt_or_ge k bl.length with hkl | hkl
    · as_aux_lemma =>
        have hki : (k : Int) < bl.length := by omega
        have HTok := Lib.hid (rlongest_any bl AB cB k wr (Hs.out.keep hT.kp (by simp)) (by omega) hkl)
        have HT := Lib.hid hT
        have hlo := longP_ok hkl
        have HL : Hid (∀ t, longP bl k = t → 1 ≤ t.2.1 ∧ t.2.1 ≤ 258 ∧ k + t.2.1.toNat ≤ bl.length ∧ tokP bl = (tl ++ [t]) ++ tokF bl bl.length (k + t.2.1.toNat)) := Lib.hid (fun t ht => by
          rw [← ht]
          refine ⟨hlo.2.1, hlo.2.2.1, hlo.2.2.2, ?_⟩
          rw [hT.rest]
          obtain ⟨f, hf⟩ : ∃ f, bl.length = f + 1 := ⟨bl.length - 1, by omega⟩
          conv => lhs; rw [hf, tokF, if_pos hkl]
          rw [tokF_more bl f bl.length _ (by omega) (by omega)]
          simp)
        have hn5 : n5 ≤ 100000 := by have h1 := hT.len; have h2 := hT.cnt; omega
        clear hI hT hlo
        go_upto_region 7 with (go_at_call 82; refine HTok.out.mono ?_; rintro e w2 ⟨td, tm, tx, rfl, hlg, hk2⟩; have hlf := HL.out _ hlg; have H2 := Lib.hid hk2; have Hlf := Lib.hid hlf; obtain ⟨l1, l2, l3, _⟩ := hlf; clear hlg hk2)
        have hk2 := H2.out
        have hrow2 : w2.ownsRow w.heap.size 64 3 (.slice A5 n5 c5) n5 (tksC tl) := ownsRow_keep HT.out.own hk2 (by simp)
        have kb : Keep [] w2 (w2.alloc (.cells #[.int .i64 td, .int .i64 tm, .int .u8 (tx : Nat)] 64)) := (Keep.refl [] w2).alloc _
        have hrow3 := ownsRow_keep hrow2 kb (by simp)
        have hkw : Keep [] w w2 := HT.out.kp.trans hk2
        obtain ⟨A6, c6, w4, hap, hown, hk4⟩ := tok_append hrow3 td tm tx (by omega) (hkw.trans kb).size
        rw [show (w2.alloc (.cells #[.int .i64 td, .int .i64 tm, .int .u8 (tx : Nat)] 64)).heap.size = w2.heap.size + 1 by simp] at hap
        have hbx : Blk w4 w2.heap.size 64 #[.int .i64 td, .int .i64 tm, .int .u8 (tx : Nat)] := (Blk.new w2 64 _).keep hk4 (fun hm => by
          have := (hrow2.lt _ (by simpa using hm)).2
          omega)
        have e1 : w4.cell? ⟨w2.heap.size, 1, none⟩ = some (.int .i64 tm) := hbx.cell 1
        obtain ⟨q, hq⟩ : ∃ q : Nat, tm = q := ⟨tm.toNat, by omega⟩
        subst hq
        have hN : Hid (TkR w bl (k + q) A6 (n5 + 1) c6 (tl ++ [(td, (q : Int), tx)]) w4) := by
          refine Lib.hid ⟨by rw [List.length_append, ← HT.out.len]; rfl, ?_, hown, (hkw.trans kb).step hk4 (fun i hi => .inr (own_far hrow3 i hi)), ?_⟩
          · have := Hlf.out.2.2.2
            simpa using this
          · have := HT.out.cnt
            rw [List.length_append]
            simp
            omega
        have hwk : IntKind.i64.wrap ((k : Int) + (q : Int)) = ((k + q : Nat) : Int) := by rw [IntKind.wrap_i64]; omega
        have hkq : k + q ≤ bl.length ∧ 1 ≤ q := by
          have h3 := Hlf.out.2.2.1
          simp at h3
          omega
        have Hap := Lib.hid hap
        clear hk2 hrow2 kb hrow3 hkw hown hk4 hbx hap l1 l2 l3
        have hap := Hap.out
        have hlt : k < k + q := by omega
        generalize k + q = kq at *
        go_wp2_with (at_builtin; refine wpList_append2 (v1 := .slice A5 n5 c5) (v2 := .slice (some ⟨w2.heap.size + 1, 0, none⟩) 1 1) rfl (.tmp 17) (.tmp 19) rfl rfl rfl hap ?_)
        go_roundw
        case rel => exact ⟨kq, n5 + 1, A6, c6, rfl, by omega, by simp, Lib.hid ⟨_, hN.out⟩⟩
        case measure => simp [intOf]; omega
    · obtain rfl : k = bl.length := by omega
      have hki : ¬ (bl.length : Int) < bl.length := by omega
      have HR : Hid (RowT w (tokP bl) 0 (.returned (.tuple #[.slice A5 n5 c5, .int .i64 0])) wr) := by
        have he : tokP bl = tl := by
          rw [hT.rest]
          have : tokF bl bl.length bl.length = [] := by
            cases hb : bl.length with
            | zero => rfl
            | succ f => rw [tokF, if_neg (by omega)]
          rw [this, List.append_nil]
        rw [he]
        refine Lib.hid ⟨A5, c5, by rw [hT.len], ?_, hT.kp⟩
        have := hT.own
        rw [hT.len] at this
        exact this
      clear hI hT
      go_wp2
      go_ret2
      exact HR.out
/-- a byte, then two rows behind it -/
theorem two_app' {w wr : World} {A6 AP : Option Addr} {c6 cP b6 : Nat} {s p : List Nat} (k : Keep [] w wr) (x : Nat) (h6 : wr.ownsRow b6 5 1 (.slice A6 s.length c6) s.length (inB s)) (hp : BySrc wr AP p) (l1 : s.length ≤ 1000000) (l2 : p.length ≤ 1000000) :
    ∃ A1 c1 w1 k1, (Builtin.append_ #[24, 24] 24 #[.slice (some ⟨wr.heap.size, 0, none⟩) 1 1, .slice A6 s.length c6]).run Try.prog (wr.alloc (.cells #[.int .u8 (x : Nat)] 5)) = .ok (.slice A1 k1 c1) w1 ∧
      ∃ A2 c2 w2 k2, (Builtin.append_ #[24, 24] 24 #[.slice A1 k1 c1, .slice AP p.length cP]).run Try.prog w1 = .ok (.slice A2 k2 c2) w2 ∧ k2 = (x :: (s ++ p)).length ∧ w2.ownsRow w.heap.size 5 1 (.slice A2 k2 c2) k2 (inB (x :: (s ++ p))) ∧ Keep [] wr w2 := by
  have ka : Keep [] wr (wr.alloc (.cells #[.int .u8 (x : Nat)] 5)) := (Keep.refl [] wr).alloc _
  have h0 := row_one wr x wr.heap.size (Nat.le_refl _)
  obtain ⟨A1, c1, w1, k1, hk1, hr1, ho1, hkp1⟩ := bytes_app' (d := c6) h0 (Src.of_own (ownsRow_keep h6 ka (by simp))) (by omega) (by omega) ka.size
  have kw1 : Keep [] wr w1 := ka.step hkp1 (fun i hi => .inr (by simp [Value.ownBlock] at hi; omega))
  obtain ⟨A2, c2, w2, k2, hk2, hr2, ho2, hkp2⟩ := bytes_app' (d := cP) ho1 (bsrc_src (hp.keep kw1 (by simp))) (by omega) (by omega) kw1.size
  refine ⟨A1, c1, w1, k1, hr1, A2, c2, w2, k2, hr2, ?_, ?_, kw1.step hkp2 (fun i hi => .inr (own_far ho1 i hi))⟩
  · rw [hk2, hk1]; simp; omega
  · have e2 : [x] ++ s ++ p = x :: (s ++ p) := by simp
    rw [e2] at ho2
    exact own_le ho2 k.size
set_option maxRecDepth 20000 in
set_option maxHeartbeats 1000000 in
theorem rencode_any (bl : List Nat) (AB : Option Addr) (cB : Nat) (w : World) (hs : BySrc w AB bl) (hl : bl.length ≤ 16000) :
    Calls Try.prog 19 #[.slice AB bl.length cB] w fun e w' => RowBE w (encP bl) 0 e w' := by
  have hbd := tokP_bd hs.2
  have htl : (tokP bl).length ≤ bl.length := tok_len _ 0
  have HT := Lib.hid (rtokens_any bl AB cB w hs (by omega))
  have HV := Lib.hid (fun w1 => rvarint_any bl.length w1 (by omega))
  have HP := Lib.hid (fun (w1 : World) (A : Option Addr) (c : Nat) (h : TSrc w1 A (tokP bl)) => rpackR_any (tokP bl) A c w1 h (by omega))
  have hpl := packR_lt (l := tokP bl) (by omega)
  have hps : (packR (tokP bl)).length ≤ 1000000 := by
    have := packR_small (l := tokP bl) (by omega) (fun t ht => (hbd t ht).2.2)
    omega
  have hvl := varP_len bl.length
  have HE : Hid (encP bl = if (1 :: (varP bl.length ++ packR (tokP bl))).length < (0 :: (varP bl.length ++ bl)).length then 1 :: (varP bl.length ++ packR (tokP bl)) else 0 :: (varP bl.length ++ bl)) := Lib.hid (by
    unfold encP
    simp only [List.length_cons, List.length_append]
    by_cases h : (packR (tokP bl)).length < bl.length
    · rw [if_pos h, if_pos (by omega)]
    · rw [if_neg h, if_neg (by omega)])
  have Hs := Lib.hid hs
  have Hbd := Lib.hid hbd
  have Hpl := Lib.hid hpl
  have hwl : IntKind.u64.wrap (bl.length : Int) = (bl.length : Int) := by rw [IntKind.wrap_u64]; omega
  clear hs hbd hpl
  generalize tokP bl = tl at *
  generalize varP bl.length = vl at *
  go_enter Try.func19, Try.ntmps19
  go_upto_region 4 with (go_at_call 53; refine HT.out.mono ?_; rintro e w1 ⟨A1, c1, rfl, ho1, hk1⟩; have H1 := Lib.hid (And.intro ho1 hk1); clear ho1 hk1)
  go_upto_region 5 with (go_at_call 37; refine (HV.out _).mono ?_; rintro e w2 ⟨A2, c2, rfl, ho2, hk2⟩; have H2 := Lib.hid (And.intro (ownsRow_keep H1.out.1 hk2 (by simp)) (And.intro (H1.out.2.trans hk2) ho2)); clear ho2 hk2)
  obtain ⟨A4, c4, w4, k4, ha4, A5, c5, w5, k5, ha5, hk5, ho5, hkp5⟩ := two_app' (cP := cB) H2.out.2.1 0 H2.out.2.2 (Hs.out.keep H2.out.2.1 (by simp)) (by omega) (by omega)
  have H5 := Lib.hid (And.intro (ownsRow_keep H2.out.1 hkp5 (by simp)) (And.intro (H2.out.2.1.trans hkp5) (And.intro ho5 (And.intro hk5 (ownsRow_keep H2.out.2.2 hkp5 (by simp))))))
  clear hk5 ho5 hkp5
  go_upto_region 6 with (first
      | (at_builtin; refine wpList_append2 (v1 := .slice (some ⟨w2.heap.size, 0, none⟩) 1 1) (v2 := .slice A2 vl.length c2) rfl (.tmp 22) (.tmp 23) rfl rfl rfl ha4 ?_)
      | (at_builtin; refine wpList_append2 (v1 := .slice A4 k4 c4) (v2 := .slice AB bl.length cB) rfl (.tmp 24) (.tmp 25) rfl rfl rfl ha5 ?_))
  clear ha4 ha5
  go_upto_region 7 with (go_at_call 12; refine (HP.out _ _ _ (tsrc_own H5.out.1 rfl Hbd.out)).mono ?_; rintro e w6 ⟨A6, c6, rfl, ho6, hk6⟩; have H6 := Lib.hid (And.intro (H5.out.2.1.trans hk6) (And.intro (ownsRow_keep H5.out.2.2.1 hk6 (by simp)) (And.intro (ownsRow_keep H5.out.2.2.2.2 hk6 (by simp)) (bsrc_own ho6 Hpl.out)))); clear ho6 hk6)
  obtain ⟨A7, c7, w7, k7, ha7, A8, c8, w8, k8, ha8, hk8, ho8, hkp8⟩ := two_app' (cP := c6) H6.out.1 1 H6.out.2.2.1 H6.out.2.2.2 (by omega) (by omega)
  have H8 := Lib.hid (And.intro (H6.out.1.trans hkp8) (And.intro (ownsRow_keep H6.out.2.1 hkp8 (by simp)) (And.intro ho8 hk8)))
  have Hk5 := Lib.hid H5.out.2.2.2.1
  clear ho8 hkp8 hk8
  generalize (packR tl).length = pn at *
  go_upto_region 8 with (first
      | (at_builtin; refine wpList_append2 (v1 := .slice (some ⟨w6.heap.size, 0, none⟩) 1 1) (v2 := .slice A2 vl.length c2) rfl (.tmp 32) (.tmp 33) rfl rfl rfl ha7 ?_)
      | (at_builtin; refine wpList_append2 (v1 := .slice A7 k7 c7) (v2 := .slice A6 pn c6) rfl (.tmp 34) (.tmp 35) rfl rfl rfl ha8 ?_))
  clear ha7 ha8
  have HF := HE.out
  rw [← Hk5.out, ← H8.out.2.2.2] at HF
  by_cases h : k8 < k5
  · rw [if_pos h] at HF
    have HG : Hid (RowBE w (encP bl) 0 (.returned (.tuple #[.slice A8 k8 c8, .int .i64 0])) w8) := by
      refine Lib.hid ?_
      rw [HF]
      have h1 := H8.out.2.2.1
      have h2 := H8.out.2.2.2
      subst h2
      exact ⟨A8, c8, rfl, h1, H8.out.1⟩
    clear HF HE
    go_wp2
    go_ret2
    exact HG.out
  · rw [if_neg h] at HF
    have HG : Hid (RowBE w (encP bl) 0 (.returned (.tuple #[.slice A5 k5 c5, .int .i64 0])) w8) := by
      refine Lib.hid ?_
      rw [HF]
      have h1 := H8.out.2.1
      have h2 := Hk5.out
      subst h2
      exact ⟨A5, c5, rfl, h1, H8.out.1⟩
    clear HF HE
    go_wp2
    go_ret2
    exact HG.out
end Go.Proofs.Ytiejjbdmkgdniaa
