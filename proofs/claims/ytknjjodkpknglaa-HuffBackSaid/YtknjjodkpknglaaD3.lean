/- The decoder's next, walked. -/
import Derived.Test.YtknjjodkpknglaaD1
set_option linter.unusedVariables false
set_option linter.unusedSimpArgs false
namespace Go.Huf
/-- the first code of length n, halved -/
def fst_ (ls : List Int) (n : Nat) : Nat := if n = 1 then 0 else nextV ls (n - 1) ls.length
theorem fst_two {ls : List Int} {n : Nat} (h1 : 1 ≤ n) (h2 : n ≤ 15) : fst_ ls n * 2 = nextV ls n 0 := by
  unfold fst_
  split
  · subst_vars; rw [nextV_first]
  · obtain ⟨m, rfl⟩ : ∃ m, n = m + 1 := ⟨n - 1, by omega⟩
    rw [Nat.add_sub_cancel, nextV_end (by omega)]
theorem fst_next {ls : List Int} {n : Nat} (h1 : 1 ≤ n) : fst_ ls (n + 1) = nextV ls n 0 + cnt ls n := by
  unfold fst_
  rw [if_neg (by omega), Nat.add_sub_cancel, nextV_ofK (by omega) ls.length (Nat.le_refl _), cnt_ofK]
theorem or_bit {c b : Nat} (hc : c < 32768) (hb : b < 2) : c * 2 ||| b = c * 2 + b := by
  have := Nat.two_pow_add_eq_or_of_lt (i := 1) (show b < 2 ^ 1 by omega) c
  rw [Nat.pow_one, Nat.mul_comm 2 c] at this
  exact this.symm
end Go.Huf
namespace Go.Proofs.Ytknjjodkpknglaa
open Go.RowKit Go.Sal Go.Huf
theorem bits_or_i64 {a b : Nat} (ha : a < 65536) (hb : b < 65536) (hc : a ||| b < 65536) : bits .or .i64 (a : Int) (b : Int) = ((a ||| b : Nat) : Int) := by
  show IntKind.i64.wrap ((BitVec.ofInt 64 (a : Int) ||| BitVec.ofInt 64 (b : Int)).toNat : Int) = _
  rw [BitVec.toNat_or, BitVec.ofInt_natCast, BitVec.ofInt_natCast, BitVec.toNat_ofNat, BitVec.toNat_ofNat, Nat.mod_eq_of_lt (by omega), Nat.mod_eq_of_lt (by omega), IntKind.wrap_i64]
  omega
theorem bits_and1_u8 {a : Nat} (ha : a < 256) : bits .and .u8 (a : Int) 1 = ((a % 2 : Nat) : Int) := by
  show IntKind.u8.wrap ((BitVec.ofInt 8 (a : Int) &&& BitVec.ofInt 8 1).toNat : Int) = _
  rw [BitVec.toNat_and, BitVec.ofInt_natCast, show BitVec.ofInt 8 1 = BitVec.ofNat 8 1 from rfl, BitVec.toNat_ofNat, BitVec.toNat_ofNat, Nat.mod_eq_of_lt (by omega), IntKind.wrap_u8, show 1 % 2 ^ 8 = 1 from rfl, Nat.and_one_is_mod]
  omega
/-- what is known of the decoder's cells -/
structure Deco (w : World) (gd : Nat) (ls : List Int) (bv ov : Value) (at_ : Nat) : Prop where
  b : w.cell? ⟨gd, 0, none⟩ = some bv
  at_ : w.cell? ⟨gd, 1, none⟩ = some (.int .i64 at_)
  by_ : ∀ n, 1 ≤ n → n ≤ 15 → w.cell? ⟨gd, 2 + n, none⟩ = some (.int .i64 (cnt ls n : Nat))
  o : w.cell? ⟨gd, 18, none⟩ = some ov
  z : w.frozen? ⟨gd, 1, none⟩ = false
def NextE (w : World) (gd at_ : Nat) (r : Option (Nat × Nat)) (e : Ending) (w' : World) : Prop := match r with
  | some (s, n) => e = .returned (.tuple #[.int .i64 (s : Nat), .bool true]) ∧ w' = w.setCell ⟨gd, 1, none⟩ (.int .i64 ((at_ + n : Nat) : Int))
  | none => e = .returned (.tuple #[.int .i64 0, .bool false]) ∧ w' = w

set_option maxRecDepth 20000 in
set_option maxHeartbeats 2000000 in
theorem next_any (ls : List Int) (bl : List Nat) (AB AO : Option Addr) (cB cO b0 gd at_ : Nat) (w : World) (hD : Deco w gd ls (.slice AB bl.length cB) (.slice AO (ord ls).length cO) at_) (ho : w.ownsRow b0 3 1 (.slice AO (ord ls).length cO) (ord ls).length (inN (ord ls))) (hne : (Value.slice AO (ord ls).length cO).ownBlock ≠ some gd) (hb : BySrc w AB bl)
    (hok : okL ls) (hbl : bl.length ≤ 10000) (hat : at_ ≤ 80000) :
    Calls Try.prog 37 #[.pointer (some ⟨gd, 0, none⟩)] w fun e w' => NextE w gd at_ (one ls bl at_) e w' := by
  have HD := Lib.hid hD.by_
  have Ho := Lib.hid ho
  have Hne := Lib.hid hne
  have Hb := Lib.hid hb
  have Hok := Lib.hid hok
  have r0 := hD.b
  have r1 := hD.at_
  have r18 := hD.o
  have z1 := hD.z
  have hl5 := hok.1
  have hol : (ord ls).length ≤ ls.length := by rw [ord_len]; exact symsK_len _ _
  clear hD ho hb hok hne
  go_enter Try.func37, Try.ntmps37
  go_wp2
  go_loop [4, 5, 6, 7] (fun vc vf vb vn => ∃ n x f p : Nat, vc = .int .i64 x ∧ vf = .int .i64 f ∧ vb = .int .i64 p ∧ vn = .int .i64 n ∧ 1 ≤ n ∧ n ≤ 16 ∧ f ≤ x ∧ x < 32768 ∧ p ≤ 512 ∧
    Hid (x = cAt bl at_ (n - 1) ∧ f = fst_ ls n ∧ p = bef ls n ∧ one ls bl at_ = oneF ls bl at_ (16 - n) n)) (fun _ _ _ vn => 16 - (intOf vn).toNat)
  case atStart => exact ⟨1, 0, 0, 0, rfl, rfl, rfl, rfl, by omega, by omega, by omega, by omega, by omega, Lib.hid ⟨rfl, rfl, rfl, rfl⟩⟩
  case round =>
    obtain ⟨n, x, f, p, rfl, rfl, rfl, rfl, hn1, hn16, hfx, hx, hp5, hI⟩ := hrel
    by_cases h15 : n ≤ 15
    · have h15i : (n : Int) ≤ 15 := by omega
      obtain ⟨i, hi⟩ : ∃ i, at_ + n = i + 1 := ⟨at_ + n - 1, by omega⟩
      obtain ⟨an, han⟩ : ∃ an, an = at_ + n := ⟨_, rfl⟩
      obtain ⟨b8, hb8⟩ : ∃ b8, b8 = 8 * bl.length := ⟨_, rfl⟩
      have hwa : IntKind.i64.wrap ((at_ : Int) + n) = (an : Int) := by rw [IntKind.wrap_i64]; omega
      have hwi : IntKind.i64.wrap ((an : Int) - 1) = (i : Int) := by rw [IntKind.wrap_i64]; omega
      have hwb : IntKind.i64.wrap (8 * (bl.length : Int)) = (b8 : Int) := by rw [IntKind.wrap_i64]; omega
      by_cases hin : i < b8
      · as_aux_lemma =>
          have hini : ¬ (b8 : Int) ≤ i := by omega
          obtain ⟨q, hq⟩ : ∃ q, i / 8 = q := ⟨_, rfl⟩
          obtain ⟨r, hr⟩ : ∃ r, i % 8 = r := ⟨_, rfl⟩
          have hr8 : r < 8 := by omega
          have hql : q < bl.length := by omega
          obtain ⟨gb, ob, rfl, hgb, dB⟩ := Hb.out.1 q hql
          have hv := Hb.out.2 _ (List.getElem_mem hql)
          have hbit : bitB bl i = bl[q] / 2 ^ (7 - r) % 2 := by
            unfold bitB
            rw [hq, hr]
            simp [List.getD, hql]
          have htd : (i : Int).tdiv 8 = (q : Int) := by rw [Int.tdiv_eq_ediv_of_nonneg (by omega)]; omega
          have htm : (i : Int).tmod 8 = (r : Int) := by rw [Int.tmod_eq_emod_of_nonneg (by omega)]; omega
          have hwq : IntKind.i64.wrap (q : Int) = (q : Int) := by rw [IntKind.wrap_i64]; omega
          have hwr : IntKind.i64.wrap (r : Int) = (r : Int) := by rw [IntKind.wrap_i64]; omega
          have hw7 : IntKind.i64.wrap (7 - (r : Int)) = ((7 - r : Nat) : Int) := by rw [IntKind.wrap_i64]; omega
          have hw7u : IntKind.u64.wrap ((7 - r : Nat) : Int) = ((7 - r : Nat) : Int) := by rw [IntKind.wrap_u64]; omega
          have hqi : (q : Int) < bl.length := by omega
          generalize bl[q] = v at *
          -- the code with one bit more
          have hbl2 := bitB_lt bl i
          have HC : Hid (x * 2 + bitB bl i = cAt bl at_ n) := Lib.hid (by
            obtain ⟨m, rfl⟩ : ∃ m, n = m + 1 := ⟨n - 1, by omega⟩
            rw [cAt, hI.out.1, Nat.add_sub_cancel, show at_ + m = i by omega])
          obtain ⟨y, hy⟩ : ∃ y, y = x * 2 + bitB bl i := ⟨_, rfl⟩
          rw [← hy] at HC
          have hy2 : y < 32768 := by
            have h1 := cAt_lt bl at_ n
            rw [← HC.out] at h1
            have : 2 ^ n ≤ 2 ^ 15 := Nat.pow_le_pow_right (by omega) (by omega)
            omega
          have hshr : ((v : Int) / 2 ^ (7 - r)) = ((v / 2 ^ (7 - r) : Nat) : Int) := by simp
          have hd2 : v / 2 ^ (7 - r) < 256 := Nat.lt_of_le_of_lt (Nat.div_le_self _ _) hv
          have hand : bits .and .u8 ((v : Int) / 2 ^ (7 - r)) 1 = (bitB bl i : Nat) := by rw [hshr, bits_and1_u8 hd2, ← hbit]
          clear hshr
          have hor : bits BinOp.or IntKind.i64 ((x : Int) * 2) (bitB bl i : Nat) = (y : Int) := by
            have h1 : (x : Int) * 2 = ((x * 2 : Nat) : Int) := by simp
            rw [h1, bits_or_i64 (by omega) (by omega) (by rw [or_bit hx hbl2]; omega), or_bit hx hbl2, hy]
          have hw2 : IntKind.i64.wrap ((x : Int) * 2) = (x : Int) * 2 := by rw [IntKind.wrap_i64]; omega
          have hwf : IntKind.i64.wrap ((f : Int) * 2) = ((f * 2 : Nat) : Int) := by rw [IntKind.wrap_i64]; omega
          have hwbt : IntKind.i64.wrap (bitB bl i : Nat) = (bitB bl i : Nat) := by rw [IntKind.wrap_i64]; omega
          obtain ⟨f2, hf2⟩ : ∃ f2, f2 = f * 2 := ⟨_, rfl⟩
          rw [← hf2] at hwf
          have Hf2 : Hid (f2 = nextV ls n 0) := Lib.hid (by rw [hf2, hI.out.2.1, fst_two hn1 h15])
          have hfy : f2 ≤ y := by omega
          have dby := HD.out n hn1 h15
          have hcn : cnt ls n ≤ 512 := Nat.le_trans (cnt_le ls n) hl5
          have hwyf : IntKind.i64.wrap ((y : Int) - f2) = ((y - f2 : Nat) : Int) := by rw [IntKind.wrap_i64]; omega
          have Hone : Hid (one ls bl at_ = oneF ls bl at_ (16 - n) n ∧ at_ + n ≤ 8 * bl.length ∧ p = bef ls n) := Lib.hid ⟨hI.out.2.2.2, by omega, hI.out.2.2.1⟩
          obtain ⟨d, hd⟩ : ∃ d, d = y - f2 := ⟨_, rfl⟩
          rw [← hd] at hwyf
          have hd3 : y = f2 + d := by omega
          have Hd3 := Lib.hid hd3
          by_cases hlt : d < cnt ls n
          · have hlti : (d : Int) < (cnt ls n : Nat) := by omega
            obtain ⟨s, hs1, hs2⟩ : ∃ s, (ord ls)[bef ls n + d]? = some s ∧ one ls bl at_ = some (s, n) := by
              have h1 := ord_at Hok.out.2.1 hn1 h15 hlt
              rw [cnt_ofK] at hlt
              rw [List.getElem?_eq_getElem hlt] at h1
              refine ⟨_, h1, ?_⟩
              rw [Hone.out.1, show 16 - n = (15 - n) + 1 by omega]
              refine oneF_some Hone.out.2.1 ?_
              unfold symAt
              rw [← HC.out, if_pos (by rw [← Hf2.out]; exact hfy), ← Hf2.out, hd3, Nat.add_sub_cancel_left, List.getElem?_eq_getElem hlt]
            rw [← Hone.out.2.2] at hs1
            have hpl := (List.getElem?_eq_some_iff.1 hs1).1
            obtain ⟨go, rfl, hgo, _⟩ := own_some Ho.out (by omega)
            have dO := (row_at Ho.out hs1).1
            have hgog : go ≠ gd := fun e => Hne.out (by rw [e]; rfl)
            have hwpc : IntKind.i64.wrap ((p : Int) + y) = ((p + y : Nat) : Int) := by rw [IntKind.wrap_i64]; omega
            have hwpd : IntKind.i64.wrap (((p + y : Nat) : Int) - f2) = ((p + d : Nat) : Int) := by rw [IntKind.wrap_i64]; omega
            obtain ⟨py, hpy⟩ : ∃ py, py = p + y := ⟨_, rfl⟩
            obtain ⟨pd, hpd⟩ : ∃ pd, pd = p + d := ⟨_, rfl⟩
            rw [← hpy] at hwpc hwpd
            rw [← hpd] at hwpd dO hpl
            have hpdi : (pd : Int) < (ord ls).length := by omega
            have HR := Lib.hid hs2
            have Han := Lib.hid han
            generalize cnt ls n = cn at *
            generalize bitB bl i = bt at *
            generalize (ord ls).length = ol at *
            clear hI hi han hb8 hin hq hr hbit HC hy hf2 Hf2 Hone hd hd3 Hd3 hlt hs1 hs2 hpy hpd HD Ho hpl
            go_wp2
            go_ret2
            unfold NextE
            rw [HR.out]
            exact ⟨rfl, by rw [← Han.out]⟩
          · have hlti : ¬ (d : Int) < (cnt ls n : Nat) := by omega
            have hfn : Hid (f2 + cnt ls n = fst_ ls (n + 1)) := Lib.hid (by rw [fst_next hn1, Hf2.out])
            have hbn : Hid (p + cnt ls n = bef ls (n + 1)) := Lib.hid (by rw [bef_succ hn1, Hone.out.2.2])
            have hpb : p + cnt ls n ≤ 512 := by
              have := bef_le Hok.out.2.1 (n := n + 1) (by omega) (by omega)
              rw [← hbn.out] at this
              omega
            have HN : Hid (y = cAt bl at_ (n + 1 - 1) ∧ f2 + cnt ls n = fst_ ls (n + 1) ∧ p + cnt ls n = bef ls (n + 1) ∧ one ls bl at_ = oneF ls bl at_ (16 - (n + 1)) (n + 1)) := Lib.hid ⟨HC.out, hfn.out, hbn.out, by
              rw [Hone.out.1, show 16 - n = (15 - n) + 1 by omega, show 16 - (n + 1) = 15 - n by omega]
              refine oneF_none Hone.out.2.1 ?_
              unfold symAt
              rw [← HC.out, if_pos (by rw [← Hf2.out]; exact hfy), ← Hf2.out, hd3, Nat.add_sub_cancel_left]
              exact List.getElem?_eq_none (by rw [← cnt_ofK]; omega)⟩
            have hwf3 : IntKind.i64.wrap ((f2 : Int) + (cnt ls n : Nat)) = ((f2 + cnt ls n : Nat) : Int) := by rw [IntKind.wrap_i64]; omega
            have hwp3 : IntKind.i64.wrap ((p : Int) + (cnt ls n : Nat)) = ((p + cnt ls n : Nat) : Int) := by rw [IntKind.wrap_i64]; omega
            have hwn : IntKind.i64.wrap ((n : Int) + 1) = (n : Int) + 1 := by rw [IntKind.wrap_i64]; omega
            have hfy2 : f2 + cnt ls n ≤ y := by omega
            generalize cnt ls n = cn at *
            generalize bitB bl i = bt at *
            clear hI hi han hb8 hin hq hr hbit HC hy hf2 Hf2 Hone hd hd3 Hd3 hlt hfn hbn HD Ho
            go_wp2
            exact ⟨⟨n + 1, y, f2 + cn, p + cn, rfl, by simp, by simp, by simp, by omega, by omega, hfy2, hy2, hpb, HN⟩, by simp [intOf]; omega⟩
      · have hini : (b8 : Int) ≤ i := by omega
        have HR : Hid (one ls bl at_ = none) := Lib.hid (by rw [hI.out.2.2.2]; exact oneF_end (by omega))
        clear hI hi han hb8 hin
        go_wp2
        go_ret2
        unfold NextE
        rw [HR.out]
        exact ⟨rfl, rfl⟩
    · have h15i : ¬ (n : Int) ≤ 15 := by omega
      have HR : Hid (one ls bl at_ = none) := Lib.hid (by rw [hI.out.2.2.2, show 16 - n = 0 by omega]; rfl)
      clear hI
      go_wp2
      go_ret2
      unfold NextE
      rw [HR.out]
      exact ⟨rfl, rfl⟩
end Go.Proofs.Ytknjjodkpknglaa
