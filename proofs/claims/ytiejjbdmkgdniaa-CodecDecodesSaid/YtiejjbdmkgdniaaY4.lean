/- Unpack and Head, in the reference. -/
import Derived.Test.YtiejjbdmkgdniaaY2
import Derived.Test.YtiejjbdmkgdniaaW4
import Derived.Test.YtiejjbdmkgdniaaW6
import Derived.Test.YtiejjbdmkgdniaaArg
import Derived.Test.YtiejjbdmkgdniaaW7
set_option linter.unusedVariables false
set_option linter.unusedSimpArgs false
namespace Go.Cod
open Go.Huf
theorem toksF_bd {la lb : List Int} {b : List Nat} (hla : la.length ≤ 512) (hlb : lb.length ≤ 32) : ∀ (n a : Nat) (l : List Tk), toksF la lb b n a = some l → ∀ t ∈ l, Go.Proofs.Ytiejjbdmkgdniaa.bdT t
  | 0, a, l, h, t, ht => by
    simp [toksF] at h
    subst h
    simp at ht
  | n + 1, a, l, h, t, ht => by
    cases hr : tokR la lb b a with
    | none => rw [toksF_none hr] at h; cases h
    | some p =>
      obtain ⟨t0, a2⟩ := p
      rw [toksF_some hr] at h
      cases hq : toksF la lb b n a2 with
      | none => rw [hq] at h; cases h
      | some l2 =>
        rw [hq] at h
        simp at h
        subst h
        rcases List.mem_cons.1 ht with rfl | ht
        · exact Go.Proofs.Ytiejjbdmkgdniaa.tokR_bd hr hla hlb
        · exact toksF_bd hla hlb n a2 l2 hq t ht
theorem readP_bd {b : List Nat} {l : List Tk} (h : readP b = some l) : ∀ t ∈ l, Go.Proofs.Ytiejjbdmkgdniaa.bdT t := by
  unfold readP at h
  split at h
  · cases h
  · rename_i h1
    split at h
    · cases h
    · rename_i h2
      split at h
      · cases h
      · split at h
        · cases h
        · have e1 := (lenP_ok h1).2.1
          have e2 := (lenP_ok h2).2.1
          exact toksF_bd (by omega) (by omega) _ _ _ h
theorem rdV_pos : ∀ (l : List Nat) (i x u : Nat), 0 < i → rdV i l = some (x, u) → 0 < x
  | [], i, x, u, _, h => by simp [rdV] at h
  | c :: l, i, x, u, hi, h => by
    rw [rdV] at h
    split at h
    · cases h
    · rename_i hc
      split at h
      · simp at h
        omega
      · cases hr : rdV (i + 1) l with
        | none => rw [hr] at h; cases h
        | some p =>
          obtain ⟨x2, u2⟩ := p
          have := rdV_pos l (i + 1) x2 u2 (by omega) hr
          rw [hr] at h
          simp at h
          omega
/-- a number read has just the bytes that it is written with -/
theorem rd_canon : ∀ (l : List Nat) (i x u : Nat), (∀ c ∈ l, c < 256) → i ≤ 9 → rdV i l = some (x, u) → u = (varF (9 - i) x).length
  | [], i, x, u, _, _, h => by simp [rdV] at h
  | c :: l, i, x, u, hl, hi, h => by
    have hc256 := hl c (by simp)
    rw [rdV] at h
    split at h
    · cases h
    · rename_i hc
      split at h
      · rename_i h128
        simp at h
        obtain ⟨rfl, rfl⟩ := h
        cases hf : 9 - i with
        | zero => simp [varF]
        | succ f => rw [varF, if_pos h128]; rfl
      · rename_i h128
        cases hr : rdV (i + 1) l with
        | none => rw [hr] at h; cases h
        | some p =>
          obtain ⟨x2, u2⟩ := p
          have hp := rdV_pos l (i + 1) x2 u2 (by omega) hr
          have ih := rd_canon l (i + 1) x2 u2 (fun y hy => hl y (List.mem_cons_of_mem _ hy)) (by omega) hr
          rw [hr] at h
          simp at h
          obtain ⟨rfl, rfl⟩ := h
          obtain ⟨f, hf⟩ : ∃ f, 9 - i = f + 1 := ⟨9 - (i + 1), by omega⟩
          rw [hf, varF, if_neg (by omega), List.length_cons, show (c - 128 + 128 * x2) / 128 = x2 by omega, show f = 9 - (i + 1) by omega, ← ih]
theorem rd_len {l : List Nat} {x u : Nat} (hl : ∀ c ∈ l, c < 256) (h : rdV 0 l = some (x, u)) : u = (varP x).length := rd_canon l 0 x u hl (by omega) h
end Go.Cod
namespace Go.Proofs.Ytiejjbdmkgdniaa
open Go.RowKit Go.Sal Go.Huf Go.Cod
theorem strN_inj {a b : List Nat} (ha : ∀ x ∈ a, x < 256) (hb : ∀ x ∈ b, x < 256) (h : (strN a).toList = (strN b).toList) : a = b := by
  rw [ByteArray.toList_eq, ByteArray.toList_eq] at h
  have h1 : a.map UInt8.ofNat = b.map UInt8.ofNat := by
    unfold strN at h
    simpa using h
  have back : ∀ l : List Nat, (∀ x ∈ l, x < 256) → (l.map UInt8.ofNat).map UInt8.toNat = l := fun l hl => by
    rw [List.map_map]
    conv => rhs; rw [← List.map_id l]
    apply List.map_congr_left
    intro x hx
    have := hl x hx
    simp
    omega
  rw [← back a ha, ← back b hb, h1]
set_option maxRecDepth 20000 in
set_option maxHeartbeats 2000000 in
theorem runpack_any (bl : List Nat) (AB : Option Addr) (cB : Nat) (w : World) (hs : BySrc w AB bl) (hc : bl.length ≤ cB) (hl : bl.length ≤ 2000) :
    Calls Try.prog 16 #[.slice AB bl.length cB] w fun e w' => RowT w (unpT bl) (unpE bl) e w' := by
  have hle : ¬ (262144 : Int) < bl.length := by omega
  have HR := Lib.hid (rread_toks bl AB cB w hs hc (by omega))
  have Hs := Lib.hid hs
  clear hs
  cases hr : readP bl with
  | none =>
    rw [hr] at HR
    obtain ⟨h1, h2⟩ := unp_none hl hr
    rw [h1, h2]
    clear hr h1 h2
    go_enter Try.func16, Try.ntmps16
    go_wp2_with (go_at_call 51; refine HR.out.mono ?_; rintro e w1 ⟨rfl, hk⟩; have Hk := Lib.hid hk; clear hk)
    go_ret2
    exact ⟨none, 0, rfl, World.ownsRow_nil _ _ _ _, Hk.out⟩
  | some l =>
    rw [hr] at HR
    have hcnt := readP_cnt hr
    have Hbd := Lib.hid (readP_bd hr)
    have HP := Lib.hid (fun (A : Option Addr) (c : Nat) (w1 : World) (h : TSrc w1 A l) => rpackR_any l A c w1 h (by omega))
    have Hlt := Lib.hid (packR_lt (l := l) (by omega))
    by_cases hz : sizeE l = 0
    · rw [hz] at HP
      by_cases hp : packR l = bl
      · have hpp : packP l = bl := by rw [← hp]; unfold packR; rw [if_pos hz]
        have e1 : unpT bl = l := by
          unfold unpT
          rw [hr]
          simp only
          rw [if_pos ⟨by omega, hz, hpp⟩]
        have e2 : unpE bl = 0 := by
          unfold unpE
          rw [hr, if_neg (by omega)]
          simp only
          rw [if_pos ⟨hz, hpp⟩]
        rw [e1, e2]
        rw [hp] at HP Hlt
        clear hr hz hp hpp e1 e2
        go_enter Try.func16, Try.ntmps16
        go_upto_region 6 with (go_at_call 51; refine HR.out.mono ?_; rintro e w1 ⟨A1, c1, rfl, ho1, hk1⟩; have H1 := Lib.hid (And.intro ho1 hk1); clear ho1 hk1)
        go_upto_region 7 with (go_at_call 12; refine (HP.out _ _ _ (tsrc_own H1.out.1 rfl Hbd.out)).mono ?_; rintro e w2 ⟨A2, c2, rfl, ho2, hk2⟩; have H2 := Lib.hid (And.intro (bsrc_own ho2 Hlt.out) (And.intro (ownsRow_keep H1.out.1 hk2 (by simp)) (H1.out.2.trans hk2))); clear ho2 hk2)
        have q1 := str_src H2.out.1 c2
        have q2 := str_src (Hs.out.keep H2.out.2.2 (by simp)) cB
        generalize strN bl = S at *
        go_wp2
        go_ret2
        exact ⟨A1, c1, rfl, H2.out.2.1, H2.out.2.2⟩
      · have hpp : ¬ (sizeE l = 0 ∧ packP l = bl) := fun h => hp (by unfold packR; rw [if_pos h.1]; exact h.2)
        have e1 : unpT bl = [] := by
          unfold unpT
          rw [hr]
          simp only
          rw [if_neg (fun h => hpp h.2)]
        have e2 : unpE bl = 70 := by
          unfold unpE
          rw [hr, if_neg (by omega)]
          simp only
          rw [if_neg hpp]
        rw [e1, e2]
        have hS := Lib.hid (fun h => hp (strN_inj Hlt.out Hs.out.2 h))
        clear hr hz hp hpp e1 e2
        generalize packR l = p at *
        go_enter Try.func16, Try.ntmps16
        go_upto_region 6 with (go_at_call 51; refine HR.out.mono ?_; rintro e w1 ⟨A1, c1, rfl, ho1, hk1⟩; have H1 := Lib.hid (And.intro ho1 hk1); clear ho1 hk1)
        go_upto_region 7 with (go_at_call 12; refine (HP.out _ _ _ (tsrc_own H1.out.1 rfl Hbd.out)).mono ?_; rintro e w2 ⟨A2, c2, rfl, ho2, hk2⟩; have H2 := Lib.hid (And.intro (bsrc_own ho2 Hlt.out) (H1.out.2.trans hk2)); clear ho2 hk2)
        have q1 := str_src H2.out.1 c2
        have q2 := str_src (Hs.out.keep H2.out.2 (by simp)) cB
        have hne := hS.out
        generalize strN bl = S at *
        generalize strN p = S2 at *
        have hneb : (S2.toList == S.toList) = false := by simpa using hne
        go_wp2
        go_ret2
        exact ⟨none, 0, rfl, World.ownsRow_nil _ _ _ _, H2.out.2⟩
    · have hpp : ¬ (sizeE l = 0 ∧ packP l = bl) := fun h => hz h.1
      have e1 : unpT bl = [] := by
        unfold unpT
        rw [hr]
        simp only
        rw [if_neg (fun h => hpp h.2)]
      have e2 : unpE bl = 70 := by
        unfold unpE
        rw [hr, if_neg (by omega)]
        simp only
        rw [if_neg hpp]
      rw [e1, e2]
      have hzb : (sizeE l != 0) = true := by simpa using hz
      clear hr hz hpp e1 e2
      generalize sizeE l = E at *
      go_enter Try.func16, Try.ntmps16
      go_upto_region 6 with (go_at_call 51; refine HR.out.mono ?_; rintro e w1 ⟨A1, c1, rfl, ho1, hk1⟩; have H1 := Lib.hid (And.intro ho1 hk1); clear ho1 hk1)
      go_wp2_with (go_at_call 12; refine (HP.out _ _ _ (tsrc_own H1.out.1 rfl Hbd.out)).mono ?_; rintro e w2 ⟨A2, c2, rfl, ho2, hk2⟩; have H2 := Lib.hid (H1.out.2.trans hk2); clear ho2 hk2)
      go_ret2
      exact ⟨none, 0, rfl, World.ownsRow_nil _ _ _ _, H2.out⟩
end Go.Proofs.Ytiejjbdmkgdniaa
set_option linter.unusedVariables false
set_option linter.unusedSimpArgs false
namespace Go.Proofs.Ytiejjbdmkgdniaa
open Go.RowKit Go.Sal Go.Huf Go.Cod
theorem unpT_bd2 (b : List Nat) : ∀ t ∈ unpT b, bdT t := by
  unfold unpT
  cases hr : readP b with
  | none => simp
  | some l =>
    simp only
    split
    · exact readP_bd hr
    · simp
set_option maxRecDepth 20000 in
set_option maxHeartbeats 2000000 in
theorem law4_any (v : Value) (l0 : List Nat) (w : World) (h : BytArg w v l0) : Calls Try.prog 4 #[v] w fun e w' => e = .returned (.bool true) ∧ Keep [] w w' := by
  have Hf := Lib.hid (cut_arg h)
  clear h
  have hl : (l0.take 700).length ≤ 700 := by rw [List.length_take]; omega
  generalize l0.take 700 = l at *
  have HU := Lib.hid (fun (A : Option Addr) (c : Nat) (w1 : World) (hs : BySrc w1 A l) (hc : l.length ≤ c) (hA : ∀ a, A = some a → a.block < w1.heap.size) => unpack_any l A c w1 hs hc hA (by omega))
  have HR := Lib.hid (fun (A : Option Addr) (c : Nat) (w1 : World) (hs : BySrc w1 A l) (hc : l.length ≤ c) => runpack_any l A c w1 hs hc (by omega))
  have Hbd := Lib.hid (unpT_bd2 l)
  have hcnt := unpT_cnt l
  have HS := Lib.hid (fun (A B : Option Addr) (ca cb : Nat) (w : World) (ha : TSrc w A (unpT l)) (hb : TSrc w B (unpT l)) => same_eq (unpT l) A B ca cb w ha hb (by omega))
  clear hcnt
  generalize unpT l = tl at *
  generalize unpE l = E at *
  go_enter Try.func4, Try.ntmps4
  go_upto_region 2 with (go_at_call 14; refine Hf.out.mono ?_; rintro e w1 ⟨A, c, rfl, hc, hs, hA, rfl⟩; have Hs := Lib.hid (And.intro hs hA); clear hs hA)
  go_upto_region 3 with (go_at_call 15; refine (HU.out A c _ Hs.out.1 hc Hs.out.2).mono ?_; rintro e w1 ⟨A1, c1, rfl, ho1, hk1⟩; have H1 := Lib.hid (And.intro (tsrc_own ho1 rfl Hbd.out) hk1); clear ho1 hk1)
  go_upto_region 4 with (go_at_call 16; refine (HR.out A c _ (Hs.out.1.keep H1.out.2 (by simp)) hc).mono ?_; rintro e w2 ⟨A2, c2, rfl, ho2, hk2⟩; have H2 := Lib.hid (And.intro (H1.out.1.keep hk2 (by simp)) (And.intro (tsrc_own ho2 rfl Hbd.out) (H1.out.2.trans hk2))); clear ho2 hk2)
  go_wp2_with (first
    | (go_at_call 17; refine (HS.out A1 A2 c1 c2 _ H2.out.1 H2.out.2.1).mono ?_; rintro e w3 ⟨rfl, hk3⟩; have H3 := Lib.hid (H2.out.2.2.trans hk3); clear hk3)
    | (go_at_call 13; refine (alive_any _).mono ?_; rintro e w4 ⟨rfl, hk4⟩; have Hk4 := Lib.hid (H3.out.trans hk4); clear hk4))
  go_ret
  exact ⟨rfl, Hk4.out⟩
end Go.Proofs.Ytiejjbdmkgdniaa
