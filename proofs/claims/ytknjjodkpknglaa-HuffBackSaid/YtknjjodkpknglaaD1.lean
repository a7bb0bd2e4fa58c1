/- The reference's Bit, One and Decode, walked. -/
import Derived.Test.YtknjjodkpknglaaHfD
import Derived.Test.YtknjjodkpknglaaE1
import Derived.Test.YtknjjodkpknglaaB1
set_option linter.unusedVariables false
set_option linter.unusedSimpArgs false
namespace Go.Proofs.Ytknjjodkpknglaa
open Go.RowKit Go.Sal Go.Huf
/-- a slice that reads as bytes -/
def BySrc (w : World) (A : Option Addr) (l : List Nat) : Prop := (∀ i (h : i < l.length), ∃ g o, A = some ⟨g, o, none⟩ ∧ g < w.heap.size ∧ w.cell? ⟨g, o + i, none⟩ = some (.int .u8 (l[i] : Nat))) ∧ ∀ x ∈ l, x < 256
theorem BySrc.keep {w w' : World} {A : Option Addr} {l : List Nat} {F : List Nat} (h : BySrc w A l) (k : Keep F w w') (hF : ∀ a, A = some a → a.block ∉ F) : BySrc w' A l := ⟨fun i hi => by
  obtain ⟨g, o, rfl, h1, h2⟩ := h.1 i hi
  exact ⟨g, o, rfl, Nat.lt_of_lt_of_le h1 k.size, (k.cell (p := ⟨g, o + i, none⟩) h1 (hF ⟨g, o, none⟩ rfl)).trans h2⟩, h.2⟩
set_option maxRecDepth 20000 in
set_option maxHeartbeats 2000000 in
theorem rbit_any (l : List Nat) (A : Option Addr) (c i : Nat) (w : World) (hs : BySrc w A l) (hi : i < 8 * l.length) (hl : l.length ≤ 100000) :
    Calls Try.prog 44 #[.slice A l.length c, .int .i64 (i : Nat)] w fun e w' => e = .returned (.int .i64 (bitB l i : Nat)) ∧ w = w' := by
  obtain ⟨q, hq⟩ : ∃ q, i / 8 = q := ⟨_, rfl⟩
  obtain ⟨r, hr⟩ : ∃ r, i % 8 = r := ⟨_, rfl⟩
  have hr8 : r < 8 := by omega
  have hql : q < l.length := by omega
  obtain ⟨g, o, rfl, hg, hc⟩ := hs.1 q hql
  have hv := hs.2 _ (List.getElem_mem hql)
  have hb : bitB l i = l[q] / 2 ^ (7 - r) % 2 := by
    unfold bitB
    rw [hq, hr]
    simp [List.getD, hql]
  generalize l[q] = v at *
  have HB := Lib.hid hb
  have htd : (i : Int).tdiv 8 = (q : Int) := by rw [Int.tdiv_eq_ediv_of_nonneg (by omega)]; omega
  have htm : (i : Int).tmod 8 = (r : Int) := by rw [Int.tmod_eq_emod_of_nonneg (by omega)]; omega
  have hwq : IntKind.i64.wrap (q : Int) = (q : Int) := by rw [IntKind.wrap_i64]; omega
  have hwr : IntKind.i64.wrap (r : Int) = (r : Int) := by rw [IntKind.wrap_i64]; omega
  have hwv : IntKind.i64.wrap (v : Int) = (v : Int) := by rw [IntKind.wrap_i64]; omega
  have hqi : (q : Int) < l.length := by omega
  clear hs hb hq hr hi
  go_enter Try.func44, Try.ntmps44
  go_wp2
  go_loop [5, 6] (fun vx vk => ∃ t x k : Nat, vx = .int .i64 x ∧ vk = .int .i64 k ∧ k ≤ 7 ∧ r ≤ k ∧ x < 256 ∧ Hid (k = r + t ∧ x = v / 2 ^ t)) (fun _ vk => 7 - (intOf vk).toNat)
  case atStart => exact ⟨0, v, r, rfl, rfl, by omega, by omega, hv, Lib.hid ⟨by simp, by simp⟩⟩
  case round =>
    obtain ⟨t, x, k, rfl, rfl, hk7, hrk, hx, hI⟩ := hrel
    rcases Nat.lt_or_ge k 7 with h7 | h7
    · have h7i : (k : Int) < 7 := by omega
      have hxd : (x : Int).tdiv 2 = ((x / 2 : Nat) : Int) := by rw [Int.tdiv_eq_ediv_of_nonneg (by omega)]; omega
      have hwx : IntKind.i64.wrap ((x / 2 : Nat) : Int) = ((x / 2 : Nat) : Int) := by rw [IntKind.wrap_i64]; omega
      have hwk : IntKind.i64.wrap ((k : Int) + 1) = (k : Int) + 1 := by rw [IntKind.wrap_i64]; omega
      have HN : Hid (k + 1 = r + (t + 1) ∧ x / 2 = v / 2 ^ (t + 1)) := Lib.hid ⟨by have := hI.out.1; omega, by rw [hI.out.2, half_pow]⟩
      have hx2 : x / 2 < 256 := by omega
      generalize x / 2 = xd at *
      clear hI
      go_wp2
      exact ⟨⟨t + 1, xd, k + 1, rfl, by simp, by omega, by omega, hx2, HN⟩, by simp [intOf]; omega⟩
    · have h7i : ¬ (k : Int) < 7 := by omega
      have hxm : (x : Int).tmod 2 = ((x % 2 : Nat) : Int) := by rw [Int.tmod_eq_emod_of_nonneg (by omega)]; omega
      have hwm : IntKind.i64.wrap ((x % 2 : Nat) : Int) = ((x % 2 : Nat) : Int) := by rw [IntKind.wrap_i64]; omega
      have HE : Hid (x % 2 = bitB l i) := by
        obtain ⟨e1, e2⟩ := hI.out
        rw [HB.out, show 7 - r = t by omega, ← e2]
        exact Lib.hid rfl
      generalize x % 2 = xm at *
      clear hI
      go_wp2
      go_ret
      exact ⟨by rw [← HE.out]; rfl, rfl⟩
def OneE (r : Option (Nat × Nat)) (e : Ending) : Prop := match r with
  | some (s, n) => e = .returned (.tuple #[.int .i64 (s : Nat), .int .i64 (n : Nat)])
  | none => e = .returned (.tuple #[.int .i64 (-1), .int .i64 0])

set_option maxRecDepth 20000 in
set_option maxHeartbeats 2000000 in
theorem rone_any (ls : List Int) (bl : List Nat) (A AC AB : Option Addr) (c cC cB b0 at_ : Nat) (w : World) (hs : ISrc w A ls) (hc : w.ownsRow b0 44 1 (.slice AC ls.length cC) ls.length (inU (codesL ls))) (hb : BySrc w AB bl) (hok : okL ls) (hbl : bl.length ≤ 10000) (hat : at_ ≤ 80000) :
    Calls Try.prog 38 #[.slice A ls.length c, .slice AC ls.length cC, .slice AB bl.length cB, .int .i64 (at_ : Nat)] w fun e w' => OneE (one ls bl at_) e ∧ w = w' := by
  have Hs := Lib.hid hs
  have Hc := Lib.hid hc
  have Hb := Lib.hid hb
  have hl := hok.1
  have Hok := Lib.hid hok
  clear hs hc hb hok
  go_enter Try.func38, Try.ntmps38
  go_wp2
  go_loop [10, 11] (fun vc vn => ∃ n x : Nat, vc = .int .i64 x ∧ vn = .int .i64 n ∧ 1 ≤ n ∧ n ≤ 16 ∧ x < 32768 ∧ Hid (x = cAt bl at_ (n - 1) ∧ one ls bl at_ = oneF ls bl at_ (16 - n) n)) (fun _ vn => 16 - (intOf vn).toNat)
  case atStart => exact ⟨1, 0, rfl, rfl, by omega, by omega, by omega, Lib.hid ⟨rfl, rfl⟩⟩
  case round =>
    obtain ⟨n, x, rfl, rfl, hn1, hn16, hx, hI⟩ := hrel
    have hend : Hid ((¬ n ≤ 15 ∨ ¬ at_ + n ≤ 8 * bl.length) → one ls bl at_ = none) := Lib.hid (fun h => by
      rw [hI.out.2]
      rcases h with h | h
      · rw [show 16 - n = 0 by omega]; rfl
      · exact oneF_end h)
    have hwb : IntKind.i64.wrap (8 * (bl.length : Int)) = ((8 * bl.length : Nat) : Int) := by rw [IntKind.wrap_i64]; omega
    obtain ⟨an, han⟩ : ∃ an, an = at_ + n := ⟨_, rfl⟩
    obtain ⟨b8, hb8⟩ : ∃ b8, b8 = 8 * bl.length := ⟨_, rfl⟩
    have hwa : IntKind.i64.wrap ((at_ : Int) + n) = (an : Int) := by rw [IntKind.wrap_i64]; omega
    rw [← hb8] at hwb
    by_cases h15 : n ≤ 15
    · have h15i : (n : Int) ≤ 15 := by omega
      by_cases hab : an ≤ b8
      · as_aux_lemma =>
          have habi : (an : Int) ≤ b8 := by omega
          obtain ⟨ai, hai⟩ : ∃ ai, an = ai + 1 := ⟨an - 1, by omega⟩
          have hwai : IntKind.i64.wrap ((an : Int) - 1) = (ai : Int) := by rw [IntKind.wrap_i64]; omega
          have HBit := Lib.hid (rbit_any bl AB cB ai w Hb.out (by omega) (by omega))
          have hbl2 := bitB_lt bl ai
          have HC : Hid (x * 2 + bitB bl ai = cAt bl at_ n) := Lib.hid (by
            obtain ⟨m, rfl⟩ : ∃ m, n = m + 1 := ⟨n - 1, by omega⟩
            rw [cAt, hI.out.1, Nat.add_sub_cancel, show at_ + m = ai by omega])
          have hwx : IntKind.i64.wrap ((x : Int) * 2) = ((x * 2 : Nat) : Int) := by rw [IntKind.wrap_i64]; omega
          obtain ⟨x2, hx2⟩ : ∃ x2, x2 = x * 2 := ⟨_, rfl⟩
          obtain ⟨y, hy⟩ : ∃ y, y = x2 + bitB bl ai := ⟨_, rfl⟩
          rw [← hx2] at hwx HC
          rw [← hy] at HC
          have hwy : IntKind.i64.wrap ((x2 : Int) + (bitB bl ai : Nat)) = (y : Int) := by rw [IntKind.wrap_i64]; omega
          have hy2 : y < 32768 := by
            have h1 := cAt_lt bl at_ n
            rw [← HC.out] at h1
            have : 2 ^ n ≤ 2 ^ 15 := Nat.pow_le_pow_right (by omega) (by omega)
            omega
          have Hone : Hid (one ls bl at_ = oneF ls bl at_ (16 - n) n ∧ at_ + n ≤ 8 * bl.length) := Lib.hid ⟨hI.out.2, by omega⟩
          have hwn : IntKind.i64.wrap ((n : Int) + 1) = (n : Int) + 1 := by rw [IntKind.wrap_i64]; omega
          generalize bitB bl ai = bt at *
          clear hI hend han hb8 hai hx2 hy hab
          go_wp2_with (go_at_call 44; refine HBit.out.mono ?_; rintro e w1 ⟨rfl, rfl⟩)
          clear HBit
          go_loop [12] (fun vk => ∃ k : Nat, vk = .int .i64 k ∧ k ≤ ls.length ∧ Hid (∀ j, j < k → ln ls j = n → codeV ls j ≠ y)) (fun vk => ls.length - (intOf vk).toNat)
          case atStart => exact ⟨0, rfl, by omega, Lib.hid (fun j hj => by omega)⟩
          case round =>
            obtain ⟨k, rfl, hk, hJ⟩ := hrel
            rcases Nat.lt_or_ge k ls.length with hkl | hkl
            · as_aux_lemma =>
                obtain ⟨g, o, rfl, hg, d1⟩ := Hs.out k hkl
                obtain ⟨gc, rfl, _, _⟩ := own_some Hc.out (by omega)
                have d2 : w.cell? ⟨gc, k, none⟩ = some (.int .u16 (codeV ls k : Nat)) := by
                  have := (inU_cell Hc.out (i := k) (by rw [codesL_len]; exact hkl)).1
                  simpa [codesL] using this
                have hle := ln_eq hkl
                have hwk : IntKind.i64.wrap ((k : Int) + 1) = (k : Int) + 1 := by rw [IntKind.wrap_i64]; omega
                have hki : (k : Int) < ls.length := by omega
                have Hst : Hid ((ls[k] = n → codeV ls k ≠ y) → ∀ j, j < k + 1 → ln ls j = n → codeV ls j ≠ y) := Lib.hid (fun h j hj hl => by
                  rcases Nat.lt_succ_iff_lt_or_eq.1 hj with h1 | rfl
                  · exact hJ.out j h1 hl
                  · exact h (by rw [← hle]; exact hl))
                have Hfd : Hid (ls[k] = n → codeV ls k = y → one ls bl at_ = some (k, n)) := Lib.hid (fun h1 h2 => by
                  rw [Hone.out.1, show 16 - n = (15 - n) + 1 by omega]
                  exact oneF_some Hone.out.2 ((symAt_some (by omega)).2 ⟨hkl, by rw [hle]; exact h1, by rw [h2, HC.out]⟩))
                generalize ls[k] = z at *
                obtain ⟨cv, hcv⟩ : ∃ cv, codeV ls k = cv := ⟨_, rfl⟩
                rw [hcv] at d2 Hst Hfd
                by_cases hz : z = n
                · subst hz
                  by_cases hc2 : cv = y
                  · have HR := Lib.hid (Hfd.out rfl hc2)
                    subst hc2
                    have hwc : IntKind.i64.wrap (cv : Int) = (cv : Int) := by rw [IntKind.wrap_i64]; omega
                    clear Hst Hfd hJ hle hcv
                    go_wp2
                    go_ret2
                    exact ⟨by rw [HR.out]; rfl, rfl⟩
                  · have HN := Lib.hid (Hst.out (fun _ => hc2))
                    have hcf : ((cv : Int) == (y : Int)) = false := by simpa using (by omega : (cv : Int) ≠ y)
                    have hcv2 := codeV_small Hok.out hkl
                    rw [hcv] at hcv2
                    have hwc : IntKind.i64.wrap (cv : Int) = (cv : Int) := by rw [IntKind.wrap_i64]; omega
                    clear Hst Hfd hJ hle hcv hc2
                    go_wp2
                    exact ⟨⟨k + 1, by simp, by omega, HN⟩, by simp [intOf]; omega⟩
                · have HN := Lib.hid (Hst.out (fun h => absurd h hz))
                  have hzf : (z == (n : Int)) = false := by simpa using hz
                  clear Hst Hfd hJ hle hcv hz
                  go_wp2
                  exact ⟨⟨k + 1, by simp, by omega, HN⟩, by simp [intOf]; omega⟩
            · obtain rfl : k = ls.length := by omega
              have HN : Hid (y = cAt bl at_ (n + 1 - 1) ∧ one ls bl at_ = oneF ls bl at_ (16 - (n + 1)) (n + 1)) := Lib.hid ⟨HC.out, by
                rw [Hone.out.1, show 16 - n = (15 - n) + 1 by omega, show 16 - (n + 1) = 15 - n by omega]
                exact oneF_none Hone.out.2 ((symAt_none (by omega)).2 (fun s h1 h2 => by rw [← HC.out]; exact hJ.out s h1 h2))⟩
              clear hJ
              go_wp2_with fail
              go_round
              case rel => exact ⟨n + 1, y, rfl, by simp, by omega, by omega, hy2, HN⟩
              case measure => simp [intOf]; omega
      · have habi : ¬ (an : Int) ≤ b8 := by omega
        have HR := Lib.hid (hend.out (.inr (by omega)))
        clear hI hend han hb8 hab
        go_wp2
        go_ret2
        exact ⟨by rw [HR.out]; rfl, rfl⟩
    · have h15i : ¬ (n : Int) ≤ 15 := by omega
      have HR := Lib.hid (hend.out (.inl h15))
      clear hI hend han hb8
      go_wp2
      go_ret2
      exact ⟨by rw [HR.out]; rfl, rfl⟩
end Go.Proofs.Ytknjjodkpknglaa
namespace Go.Proofs.Ytknjjodkpknglaa
open Go.RowKit Go.Sal Go.Huf
/-- a call's answer: a new row of symbols, where, an error -/
def DecR (w : World) (l : List Nat) (a : Nat) (E : Int) (e : Ending) (w' : World) : Prop := ∃ A c, e = .returned (.tuple #[.slice A l.length c, .int .i64 (a : Nat), .int .i64 E]) ∧ w'.ownsRow w.heap.size 3 1 (.slice A l.length c) l.length (inN l) ∧ Keep [] w w'
theorem rdecode_bad (ls : List Int) (A : Option Addr) (c : Nat) (V V2 : Value) (w : World) (hs : ISrc w A ls) (hn : ls.length ≤ 100000000) (h : ¬ okL ls) :
    Calls Try.prog 30 #[.slice A ls.length c, V, V2] w fun e w' => DecR w [] 0 51 e w' := by
  have Hc := Lib.hid (rcodes_bad ls A c w hs hn h)
  clear hs h
  go_enter Try.func30, Try.ntmps30
  go_wp2_with (go_at_call 23; refine Hc.out.mono ?_; rintro e w' ⟨rfl, rfl⟩)
  go_ret3
  exact ⟨none, 0, rfl, World.ownsRow_nil _ _ _ _, Keep.refl _ _⟩
theorem rdecode_neg (ls : List Int) (A : Option Addr) (c : Nat) (V : Value) (n : Int) (w : World) (hs : ISrc w A ls) (h : okL ls) (hn : n < 0) :
    Calls Try.prog 30 #[.slice A ls.length c, V, .int .i64 n] w fun e w' => DecR w [] 0 1 e w' := by
  have Hc := Lib.hid (rcodes_ok ls A c w hs h)
  clear hs h
  go_enter Try.func30, Try.ntmps30
  go_wp2_with (go_at_call 23; refine Hc.out.mono ?_; rintro e w' ⟨AC, cC, rfl, hown, hk⟩; have Hk := Lib.hid hk; clear hown hk)
  go_ret3
  exact ⟨none, 0, rfl, World.ownsRow_nil _ _ _ _, Hk.out⟩
def DI2 (w : World) (ls : List Int) (AC : Option Addr) (cC : Nat) (l : List Nat) (A : Option Addr) (c : Nat) (wr : World) : Prop :=
  wr.ownsRow w.heap.size 3 1 (.slice A l.length c) l.length (inN l) ∧ wr.ownsRow w.heap.size 44 1 (.slice AC ls.length cC) ls.length (inU (codesL ls)) ∧ Keep [] w wr
set_option maxRecDepth 20000 in
set_option maxHeartbeats 2000000 in
theorem rdecode_any (ls : List Int) (bl : List Nat) (A AB : Option Addr) (c cB n : Nat) (w : World) (hs : ISrc w A ls) (hb : BySrc w AB bl) (h : okL ls) (hbl : bl.length ≤ 10000) (hn : n ≤ 9223372036854775807) :
    Calls Try.prog 30 #[.slice A ls.length c, .slice AB bl.length cB, .int .i64 (n : Nat)] w fun e w' => ∃ l a E, DecP ls bl n l a E ∧ DecR w l a E e w' := by
  have hl5 := h.1
  have Hc := Lib.hid (rcodes_ok ls A c w hs h)
  have Hs := Lib.hid hs
  have Hb := Lib.hid hb
  have Hok := Lib.hid h
  clear hs hb h
  go_enter Try.func30, Try.ntmps30
  go_wp2_with (go_at_call 23; refine Hc.out.mono ?_; rintro e w1 ⟨AC, cC, rfl, hown1, hk1⟩; have H0 : Hid (DI2 w ls AC cC (dst ls bl 0).1 none 0 w1) := Lib.hid ⟨World.ownsRow_nil _ _ _ _, hown1, hk1⟩; clear hown1 hk1)
  go_loopw [11, 12] (fun vl va wr => ∃ (k at_ : Nat) (A9 : Option Addr) (c9 : Nat), vl = .slice A9 k c9 ∧ va = .int .i64 at_ ∧ k ≤ n ∧ at_ ≤ 80000 ∧ k ≤ 80000 ∧ Hid ((k = (dst ls bl k).1.length ∧ at_ = (dst ls bl k).2) ∧ DI2 w ls AC cC (dst ls bl k).1 A9 c9 wr ∧ ∀ j, j < k → one ls bl (dst ls bl j).2 ≠ none)) (fun _ va _ => 80001 - (intOf va).toNat)
  case atStart => exact ⟨0, 0, none, 0, rfl, rfl, by omega, by omega, by omega, Lib.hid ⟨⟨rfl, rfl⟩, H0.out, fun j hj => by omega⟩⟩
  case round =>
    obtain ⟨k, at_, A9, c9, rfl, rfl, hkn, hat, hk8, hI⟩ := hrel
    clear H0
    rcases Nat.lt_or_ge k n with hlt | hge
    · as_aux_lemma =>
        obtain ⟨⟨hkl, hate⟩, ⟨hown, hcod, hkp⟩, hall⟩ := hI.out
        have hO := rone_any ls bl A AC AB c cC cB _ at_ wr (Hs.out.keep hkp (by simp)) hcod (Hb.out.keep hkp (by simp)) Hok.out (by omega) hat
        have hlti : (k : Int) < n := by omega
        have hbd := dst_bounds (ls := ls) (b := bl) k hall
        cases hx : one ls bl at_ with
        | none =>
          rw [hx] at hO
          have HO := Lib.hid hO
          have HR := Lib.hid (show DecP ls bl n [] at_ 52 from .inr ⟨k, hlt, hall, by rw [← hate]; exact hx, rfl, hate, rfl⟩)
          have HK := Lib.hid hkp
          clear hI hkl hate hown hcod hkp hall hO hx hbd
          go_wp2_with (go_at_call 38; refine HO.out.mono ?_; unfold OneE; rintro e w2 ⟨rfl, rfl⟩)
          go_ret3
          exact ⟨[], at_, 52, HR.out, none, 0, rfl, World.ownsRow_nil _ _ _ _, HK.out⟩
        | some p =>
          obtain ⟨s, m⟩ := p
          rw [hx] at hO
          have hsp := one_spec hx
          have hd := dst_some (ls := ls) (b := bl) (k := k) (by rw [← hate]; exact hx)
          have hown' : wr.ownsRow w.heap.size 3 1 (.slice A9 (dst ls bl k).1.length c9) (dst ls bl k).1.length (inN (dst ls bl k).1) := hown
          obtain ⟨A2, c2, w2, hap, hown2, hk2, _⟩ := free_append hown' s (by omega) hkp.size
          rw [← hkl, show ((dst ls bl k).1 ++ [s]).length = k + 1 by rw [List.length_append, ← hkl]; rfl] at hap
          have hk2' := hkp.step hk2 (fun j hj => .inr (hown'.lt j (by simpa using hj)).1)
          have hcod2 : w2.ownsRow w.heap.size 44 1 (.slice AC ls.length cC) ls.length (inU (codesL ls)) := ownsRow_keep hcod hk2 (fun i hi hm => by
            have hm' : (Value.slice A9 (dst ls bl k).1.length c9).ownBlock = some i := by simpa using hm
            exact own_ne_own hcod hown' (by decide) hi hm')
          have HN : Hid ((k + 1 = (dst ls bl (k + 1)).1.length ∧ at_ + m = (dst ls bl (k + 1)).2) ∧ DI2 w ls AC cC (dst ls bl (k + 1)).1 A2 c2 w2 ∧ ∀ j, j < k + 1 → one ls bl (dst ls bl j).2 ≠ none) := by
            rw [hd]
            refine Lib.hid ⟨⟨by simp [← hkl], by rw [hate]⟩, ⟨hown2, hcod2, hk2'⟩, fun j hj => ?_⟩
            rcases Nat.lt_succ_iff_lt_or_eq.1 hj with h1 | rfl
            · exact hall j h1
            · rw [← hate, hx]; simp
          have hatm : at_ + m ≤ 80000 := by omega
          have hm1 : 1 ≤ m := hsp.1
          have hk1 : k + 1 ≤ 80000 := by omega
          have hwam : IntKind.i64.wrap ((at_ : Int) + m) = ((at_ + m : Nat) : Int) := by rw [IntKind.wrap_i64]; omega
          have hs0 : ¬ (s : Int) < 0 := by omega
          have HO := Lib.hid hO
          have Hap := Lib.hid hap
          clear hI hkl hate hown hown' hcod hkp hall hO hx hbd hsp hd hown2 hk2 hk2' hcod2 hap
          have hap := Hap.out
          go_wp2_with (first
            | (go_at_call 38; refine HO.out.mono ?_; unfold OneE; rintro e w3 ⟨rfl, rfl⟩)
            | (at_builtin; refine wpList_append2 (v1 := .slice A9 k c9) (v2 := .slice (some ⟨wr.heap.size, 0, none⟩) 1 1) rfl (.tmp 40) (.tmp 42) rfl rfl rfl hap ?_))
          exact ⟨⟨k + 1, at_ + m, A2, c2, rfl, by simp, by omega, hatm, hk1, HN⟩, by simp [intOf]; omega⟩
    · obtain rfl : k = n := by omega
      obtain ⟨⟨hkl, hate⟩, ⟨hown, _, hkp⟩, hall⟩ := hI.out
      have HR := Lib.hid (show DecP ls bl k (dst ls bl k).1 at_ 0 from .inl ⟨hall, rfl, hate, rfl⟩)
      have HO := Lib.hid (show DecR w (dst ls bl k).1 at_ 0 (.returned (.tuple #[.slice A9 k c9, .int .i64 at_, .int .i64 0])) wr from ⟨A9, c9, by rw [← hkl], hown, hkp⟩)
      clear hI hkl hate hown hkp hall
      go_wp2
      go_ret3
      exact ⟨_, at_, 0, HR.out, HO.out⟩
end Go.Proofs.Ytknjjodkpknglaa
