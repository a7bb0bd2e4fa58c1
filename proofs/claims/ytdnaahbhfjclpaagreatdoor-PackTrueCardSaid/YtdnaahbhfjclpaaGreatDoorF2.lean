/- How many bytes at two places are alike: reach, in the program and in the reference. -/
import Derived.Test.YtdnaahbhfjclpaaGreatDoorCp3
import Derived.Test.YtdnaahbhfjclpaaGreatDoorK1
import Derived.Test.YtdnaahbhfjclpaaGreatDoorK3
import Derived.ChangeKeysEq
import Derived.Deep.RegionHeld3
import Derived.Deep.QuietTactic
import Derived.BigQuiet
import Derived.Test.YtdnaahbhfjclpaaGreatDoorShelf
set_option linter.unusedVariables false
set_option linter.unusedSimpArgs false
namespace Go.Cod
open Go.Huf
abbrev Q4 := Nat × Nat × Nat × Nat
def q4 (b : List Nat) (i : Nat) : Q4 := (b.getD i 0, b.getD (i + 1) 0, b.getD (i + 2) 0, b.getD (i + 3) 0)
def lastF (b : List Nat) (q : Q4) : Nat → Option Nat
  | 0 => none
  | n + 1 => if n + 4 ≤ b.length ∧ q4 b n = q then some n else lastF b q n
def lastV (b : List Nat) (q : Q4) (n : Nat) : Int := ((lastF b q n).map fun (p : Nat) => (p : Int)).getD (-1)
def aheadV (b : List Nat) (i : Nat) : Int := if i + 4 ≤ b.length then lastV b (q4 b i) i else -1
theorem lastF_some {b : List Nat} {q : Q4} {p : Nat} : ∀ {n : Nat}, lastF b q n = some p → p < n ∧ p + 4 ≤ b.length ∧ q4 b p = q ∧ ∀ j, p < j → j < n → j + 4 ≤ b.length → q4 b j ≠ q
  | 0, h => by simp [lastF] at h
  | n + 1, h => by
    rw [lastF] at h
    split at h
    · rename_i h1
      injection h with h
      subst h
      exact ⟨by omega, h1.1, h1.2, fun j h2 h3 => by omega⟩
    · rename_i h1
      obtain ⟨h2, h3, h4, h5⟩ := lastF_some h
      refine ⟨by omega, h3, h4, fun j h6 h7 h8 h9 => ?_⟩
      rcases Nat.lt_succ_iff_lt_or_eq.1 h7 with h | rfl
      · exact h5 j h6 h h8 h9
      · exact h1 ⟨h8, h9⟩
theorem lastF_none {b : List Nat} {q : Q4} : ∀ {n : Nat}, lastF b q n = none → ∀ j, j < n → j + 4 ≤ b.length → q4 b j ≠ q
  | 0, _, j, h => by omega
  | n + 1, h, j, hj => by
    rw [lastF] at h
    split at h
    · cases h
    · rename_i h1
      intro h8 h9
      rcases Nat.lt_succ_iff_lt_or_eq.1 hj with h2 | rfl
      · exact lastF_none h j h2 h8 h9
      · exact h1 ⟨h8, h9⟩
section
variable {b : List Nat} {at_ : Nat}
theorem rch_key {p : Nat} (hp : p < at_) (h : 4 ≤ rch b p at_) : p + 4 ≤ b.length ∧ q4 b p = q4 b at_ := by
  have h1 := rch_le b p at_
  refine ⟨by omega, ?_⟩
  have h2 := fun i (hi : i < 4) => rchF_alike b 258 p at_ i (by unfold rch at h; omega)
  have a0 := h2 0 (by omega)
  have a1 := h2 1 (by omega)
  have a2 := h2 2 (by omega)
  have a3 := h2 3 (by omega)
  simp only [Nat.add_zero] at a0
  simp only [q4, a0, a1, a2, a3]
theorem key_rch {p : Nat} (hp : p < at_) (ha : at_ + 4 ≤ b.length) (h : q4 b p = q4 b at_) : 4 ≤ rch b p at_ := by
  simp only [q4, Prod.mk.injEq] at h
  obtain ⟨h0, h1, h2, h3⟩ := h
  refine rchF_ge b 258 p at_ 4 (by omega) (by omega) (fun i hi => ?_)
  rcases (show i = 0 ∨ i = 1 ∨ i = 2 ∨ i = 3 by omega) with rfl | rfl | rfl | rfl
  · exact h0
  · exact h1
  · exact h2
  · exact h3
theorem best_flat {a : Nat} : ∀ {c : Nat}, a ≤ c → (∀ k, a < k → k ≤ c → rch b (at_ - k) at_ < 4) → bestT b at_ c = bestT b at_ a
  | 0, h, _ => by rw [show a = 0 by omega]
  | c + 1, h, hk => by
    by_cases hc : a = c + 1
    · rw [hc]
    · have := hk (c + 1) (by omega) (Nat.le_refl _)
      rw [bestT, if_neg (by omega)]
      exact best_flat (by omega) (fun k h1 h2 => hk k h1 (by omega))
theorem best_skip {m p : Nat} (hm : m ≤ at_) (hpm : p < m) (h : ∀ j, p < j → j < m → j + 4 ≤ b.length → q4 b j ≠ q4 b at_) : bestT b at_ (at_ - p - 1) = bestT b at_ (at_ - m) := by
  refine best_flat (by omega) (fun k h1 h2 => ?_)
  apply Classical.byContradiction
  intro h3
  obtain ⟨h4, h5⟩ := rch_key (b := b) (at_ := at_) (p := at_ - k) (by omega) (by omega)
  exact h _ (by omega) (by omega) h4 h5
theorem best_end {m c : Nat} (hm : m ≤ at_) (hc : at_ - m ≤ c) (hc2 : c ≤ at_) (h : ∀ j, j < m → at_ - c ≤ j → j + 4 ≤ b.length → q4 b j ≠ q4 b at_) : bestT b at_ c = bestT b at_ (at_ - m) := by
  refine best_flat hc (fun k h1 h2 => ?_)
  apply Classical.byContradiction
  intro h3
  obtain ⟨h4, h5⟩ := rch_key (b := b) (at_ := at_) (p := at_ - k) (by omega) (by omega)
  exact h _ (by omega) (by omega) h4 h5
theorem long_short (h : b.length < at_ + 4) : longP b at_ = (0, 1, b.getD at_ 0) := by
  unfold longP
  rw [best_flat (a := 0) (by omega) (fun k h1 h2 => ?_)]
  · rfl
  · have := rch_le b (at_ - k) at_
    omega
theorem best_len (h : at_ < b.length) {d : Nat} (hd : d ≤ at_) : 1 ≤ (bestT b at_ d).2.1 ∧ (bestT b at_ d).2.1 ≤ 258 ∧ 0 ≤ (bestT b at_ d).1 ∧ (bestT b at_ d).1 ≤ d := by
  rcases bestT_spec b at_ h d hd with h1 | ⟨k, h1, h2, h3, h4⟩
  · rw [h1]; simp
  · have := (rch_le b (at_ - k) at_).1
    rw [h4]; simp; omega
end
end Go.Cod

namespace Go.Proofs.YtdnaahbhfjclpaaGreatDoor
open Go.RowKit Go.Sal Go.Huf Go.Cod
def qkey (q : Q4) : Value := .agg #[.int .u8 (q.1 : Nat), .int .u8 (q.2.1 : Nat), .int .u8 (q.2.2.1 : Nat), .int .u8 (q.2.2.2 : Nat)]
theorem chk5 (e : Bool) (n : Nat) (x : Int) (w : World) : (Instr.checkKey e (n + 1) 5 (.int .u8 x)).run Tryz.prog w = .ok () w := by
  simp [Instr.checkKey, run_underlying Tryz.underlying5]
theorem chk149 (e : Bool) (n : Nat) (a0 a1 a2 a3 : Nat) (w : World) : (Instr.checkKey e (n + 1 + 1) 201 (.agg #[.int .u8 (a0 : Nat), .int .u8 (a1 : Nat), .int .u8 (a2 : Nat), .int .u8 (a3 : Nat)])).run Tryz.prog w = .ok () w := by
  have u5 := Tryz.underlying5
  have z5 := Tryz.isAgg5
  have s5 := Tryz.sizeOf5
  rw [Instr.checkKey]
  simp only [Sem.run_bind, run_underlying Tryz.underlying201, Result.andThen_ok]
  simp only [Std.Legacy.Range.forIn_eq_forIn_range', Std.Legacy.Range.size, Nat.sub_zero, Nat.add_sub_cancel, Nat.div_one, List.range'_succ, List.range'_zero, List.forIn_cons, List.forIn_nil]
  go_simp
  simp [chk5]
theorem qlaw : KeyLaw Tryz.prog 201 qkey where
  same a := by simp [qkey, Instr.sameBits]
  eq a b w := by
    obtain ⟨a0, a1, a2, a3⟩ := a
    obtain ⟨b0, b1, b2, b3⟩ := b
    have u5 := Tryz.underlying5
    have z5 := Tryz.isAgg5
    have s5 := Tryz.sizeOf5
    simp only [qkey]
    show (Op.equalIn 10000 201 _ _).run Tryz.prog w = _
    rw [show (10000 : Nat) = 9999 + 1 from rfl, Op.equalIn]
    simp only [Sem.run_bind, run_underlying Tryz.underlying201, Result.andThen_ok]
    simp only [Std.Legacy.Range.forIn_eq_forIn_range', Std.Legacy.Range.size, Nat.sub_zero, Nat.add_sub_cancel, Nat.div_one, List.range'_succ, List.range'_zero, List.forIn_cons, List.forIn_nil]
    go_simp
    by_cases h0 : a0 = b0 <;> by_cases h1 : a1 = b1 <;> by_cases h2 : a2 = b2 <;> by_cases h3 : a3 = b3 <;> simp [h0, h1, h2, h3] <;> omega
  chk e a w := by
    obtain ⟨a0, a1, a2, a3⟩ := a
    exact chk149 e 9998 _ _ _ _ w
  desc := ⟨_, Tryz.underlying201, fun a v => by cases v <;> rfl⟩
set_option maxRecDepth 20000 in
set_option maxHeartbeats 2000000 in
theorem at_no (bl : List Nat) (AB : Option Addr) (cB gf i : Nat) (V1 V2 V3 : Value) (w : World) (hF : Blk w gf 199 #[.slice AB bl.length cB, V1, V2, V3]) (hl : bl.length ≤ 1000000) (hi : i ≤ 1000000) (h : bl.length < i + 4) :
    Calls Tryz.prog 139 #[.pointer (some ⟨gf, 0, none⟩), .int .i64 (i : Nat)] w fun e w' => e = .returned (.tuple #[.agg #[.int .u8 0, .int .u8 0, .int .u8 0, .int .u8 0], .bool false]) ∧ Keep [] w w' := by
  have m0 : w.cell? ⟨gf, 0, none⟩ = some (.slice AB bl.length cB) := hF.cell 0
  have hlt := hF.lt
  have hw4 : IntKind.i64.wrap ((i : Int) + 4) = ((i + 4 : Nat) : Int) := by rw [IntKind.wrap_i64]; omega
  obtain ⟨i4, hi4⟩ : ∃ i4, i + 4 = i4 := ⟨_, rfl⟩
  rw [hi4] at hw4 h
  have hgt : (bl.length : Int) < i4 := by omega
  clear hF hi4
  go_enter Tryz.func139, Tryz.ntmps139
  go_wp2
  exact bodyPost_ret (v := .tuple #[.agg #[.int .u8 0, .int .u8 0, .int .u8 0, .int .u8 0], .bool false]) (by simp [results, Tryz.results139, go_sem]) rfl ⟨rfl, (Keep.refl [] _).alloc _⟩
set_option maxRecDepth 20000 in
set_option maxHeartbeats 2000000 in
theorem at_yes (bl : List Nat) (AB : Option Addr) (cB gf i : Nat) (V1 V2 V3 : Value) (w : World) (hF : Blk w gf 199 #[.slice AB bl.length cB, V1, V2, V3]) (hs : BySrc w AB bl) (hc : bl.length ≤ cB) (hl : bl.length ≤ 1000000) (h : i + 4 ≤ bl.length) :
    Calls Tryz.prog 139 #[.pointer (some ⟨gf, 0, none⟩), .int .i64 (i : Nat)] w fun e w' => e = .returned (.tuple #[qkey (q4 bl i), .bool true]) ∧ Keep [] w w' := by
  have m0 : w.cell? ⟨gf, 0, none⟩ = some (.slice AB bl.length cB) := hF.cell 0
  have hlt := hF.lt
  have hw4 : IntKind.i64.wrap ((i : Int) + 4) = ((i + 4 : Nat) : Int) := by rw [IntKind.wrap_i64]; omega
  obtain ⟨g, o, rfl, hg, d0⟩ := hs.1 i (by omega)
  have hd : ∀ j, j < bl.length → w.cell? ⟨g, o + j, none⟩ = some (.int .u8 (bl.getD j 0 : Nat)) := fun j hj => by
    obtain ⟨g', o', e, _, d⟩ := hs.1 j hj
    injection e with e
    injection e with e1 e2
    subst e1; subst e2
    rw [d]; simp [List.getD, hj]
  have e0 := hd i (by omega)
  have e1 := hd (i + 1) (by omega)
  have e2 := hd (i + 2) (by omega)
  have e3 := hd (i + 3) (by omega)
  rw [← Nat.add_assoc] at e1 e2 e3
  clear hd d0 hs hF
  have hq : qkey (q4 bl i) = .agg #[.int .u8 (bl.getD i 0 : Nat), .int .u8 (bl.getD (i + 1) 0 : Nat), .int .u8 (bl.getD (i + 2) 0 : Nat), .int .u8 (bl.getD (i + 3) 0 : Nat)] := rfl
  rw [hq]
  clear hq
  generalize bl.getD i 0 = a0 at *
  generalize bl.getD (i + 1) 0 = a1 at *
  generalize bl.getD (i + 2) 0 = a2 at *
  generalize bl.getD (i + 3) 0 = a3 at *
  obtain ⟨i4, hi4⟩ : ∃ i4, i + 4 = i4 := ⟨_, rfl⟩
  rw [hi4] at hw4 h
  have hgt : ¬ (bl.length : Int) < i4 := by omega
  have hi4c : (i4 : Int) ≤ cB := by omega
  have hii : (i : Int) ≤ i4 := by omega
  have hsub : i4 - i = 4 := by omega
  have Hi4 := Lib.hid hi4
  clear hi4
  have harr : ∀ (c : Nat) (W : World), (Instr.arrayAt 201 (.slice (some ⟨g, o + i, none⟩) 4 c)).run Tryz.prog W = .ok (.pointer (some ⟨g, o + i, none⟩)) W := fun c W => by
    simp [Instr.arrayAt, run_underlying Tryz.underlying201]
  go_enter Tryz.func139, Tryz.ntmps139
  go_wp2
  exact bodyPost_ret (v := .tuple #[.agg #[.int .u8 (a0 : Nat), .int .u8 (a1 : Nat), .int .u8 (a2 : Nat), .int .u8 (a3 : Nat)], .bool true]) (by simp [results, Tryz.results139, go_sem]) rfl ⟨rfl, (Keep.refl [] _).alloc _⟩
end Go.Proofs.YtdnaahbhfjclpaaGreatDoor

namespace Go.Proofs.YtdnaahbhfjclpaaGreatDoor
open Go.RowKit Go.Sal Go.Huf Go.Cod
theorem bits_and1_u8 {a : Nat} (ha : a < 256) : bits .and .u8 (a : Int) 1 = ((a % 2 : Nat) : Int) := by
  show IntKind.u8.wrap ((BitVec.ofInt 8 (a : Int) &&& BitVec.ofInt 8 1).toNat : Int) = _
  rw [BitVec.toNat_and, BitVec.ofInt_natCast, show BitVec.ofInt 8 1 = BitVec.ofNat 8 1 from rfl, BitVec.toNat_ofNat, BitVec.toNat_ofNat, Nat.mod_eq_of_lt (by omega), IntKind.wrap_u8, show 1 % 2 ^ 8 = 1 from rfl, Nat.and_one_is_mod]
  omega
set_option maxRecDepth 20000 in
set_option maxHeartbeats 2000000 in
theorem take_ok (T gl : Nat) (bl : List Nat) (bit : Nat) (w : World) (h : LF T gl bl bit w) (hl : bl.length ≤ 1000000) (hb : bit < 8 * bl.length) :
    Calls Tryz.prog 134 #[.pointer (some ⟨gl, 0, none⟩)] w fun e w' => e = .returned (.int .u64 (bitB bl bit : Nat)) ∧ LF T gl bl (bit + 1) w' ∧ Keep [gl] w w' := by
  obtain ⟨A, c, hblk, hs, hc, hne⟩ := h
  obtain ⟨q, hq⟩ : ∃ q, bit / 8 = q := ⟨_, rfl⟩
  obtain ⟨r, hr⟩ : ∃ r, bit % 8 = r := ⟨_, rfl⟩
  have hr8 : r < 8 := by omega
  have hql : q < bl.length := by omega
  obtain ⟨g, o, rfl, hg, d0⟩ := hs.1 q hql
  have hv := hs.2 _ (List.getElem_mem hql)
  have hbb : bitB bl bit = bl[q] / 2 ^ (7 - r) % 2 := by
    unfold bitB
    rw [hq, hr]
    simp [List.getD, hql]
  have m0 : w.cell? ⟨gl, 0, none⟩ = some (.slice (some ⟨g, o, none⟩) bl.length c) := hblk.cell 0
  have m1 : w.cell? ⟨gl, 1, none⟩ = some (.int .i64 (bit : Nat)) := hblk.cell 1
  have f1 := hblk.free 1
  have HE : ∀ q, Hid (LF T gl bl (bit + 1) ((w.drewN q).setCell ⟨gl, 1, none⟩ (.int .i64 ((bit : Int) + 1))) ∧ Keep [gl] w ((w.drewN q).setCell ⟨gl, 1, none⟩ (.int .i64 ((bit : Int) + 1)))) := fun q => by
    have hk : Keep [gl] w ((w.drewN q).setCell ⟨gl, 1, none⟩ (.int .i64 ((bit : Int) + 1))) := ((Keep.refl [gl] w).drewN q).setCell (.inl (by simp)) _
    refine Lib.hid ⟨⟨_, c, ?_, hs.keep hk (fun a ha hm => Nat.ne_of_lt (hne a ha) (by simpa using hm)), hc, hne⟩, hk⟩
    have := (hblk.drewN q).set_ 1 (.int .i64 ((bit : Int) + 1))
    simpa using this
  generalize bl[q] = v at *
  have HB := Lib.hid hbb
  have htd : (bit : Int).tdiv 8 = (q : Int) := by rw [Int.tdiv_eq_ediv_of_nonneg (by omega)]; omega
  have htm : (bit : Int).tmod 8 = (r : Int) := by rw [Int.tmod_eq_emod_of_nonneg (by omega)]; omega
  have hwq : IntKind.i64.wrap (q : Int) = (q : Int) := by rw [IntKind.wrap_i64]; omega
  have hwr : IntKind.i64.wrap (r : Int) = (r : Int) := by rw [IntKind.wrap_i64]; omega
  have hw7 : IntKind.i64.wrap (7 - (r : Int)) = ((7 - r : Nat) : Int) := by rw [IntKind.wrap_i64]; omega
  have hwu : IntKind.u64.wrap ((7 - r : Nat) : Int) = ((7 - r : Nat) : Int) := by rw [IntKind.wrap_u64]; omega
  have hwb : IntKind.i64.wrap ((bit : Int) + 1) = (bit : Int) + 1 := by rw [IntKind.wrap_i64]; omega
  obtain ⟨b8, hb8⟩ : ∃ b8, b8 = 8 * bl.length := ⟨_, rfl⟩
  have hw8 : IntKind.i64.wrap (8 * (bl.length : Int)) = (b8 : Int) := by rw [IntKind.wrap_i64]; omega
  have hlt : (bit : Int) < b8 := by omega
  have hltb : decide ((bit : Int) < (b8 : Int)) = true := decide_eq_true hlt
  have hqi : (q : Int) < bl.length := by omega
  clear hs hbb hq hr hc hne hblk hb8 hb
  go_enter Tryz.func134, Tryz.ntmps134
  go_wp2
  go_quiet ((go_at_call 58; exact Calls.quiet_of_same ((must_yes _).mono (fun e w' h => ⟨h.1, h.2.symm⟩))))
  go_wp2
  have hshr : ((v : Int) / 2 ^ (7 - r)) = ((v / 2 ^ (7 - r) : Nat) : Int) := by simp
  have hd2 : v / 2 ^ (7 - r) < 256 := Nat.lt_of_le_of_lt (Nat.div_le_self _ _) hv
  have hand : bits .and .u8 ((v : Int) / 2 ^ (7 - r)) 1 = (bitB bl bit : Nat) := by rw [hshr, bits_and1_u8 hd2, ← HB.out]
  clear hshr
  have hqn : decide ((q : Int) < (bl.length : Int)) = true := decide_eq_true hqi
  have hqn2 : decide (q < bl.length) = true := decide_eq_true hql
  have hbl2 := bitB_lt bl bit
  have hwx : IntKind.u64.wrap (bitB bl bit : Nat) = (bitB bl bit : Nat) := by rw [IntKind.wrap_u64]; omega
  generalize hbt : bitB bl bit = bt at *
  have Hbt := Lib.hid hbt
  clear hbt
  go_quiet (fail)
  go_wp2
  go_ret
  rw [Hbt.out]
  exact ⟨rfl, (HE _).out⟩
set_option maxRecDepth 20000 in
set_option maxHeartbeats 2000000 in
theorem take_no (T gl : Nat) (bl : List Nat) (bit : Nat) (w : World) (h : LF T gl bl bit w) (hl : bl.length ≤ 1000000) (hb2 : bit ≤ 10000000) (hb : ¬ bit < 8 * bl.length) :
    Calls Tryz.prog 134 #[.pointer (some ⟨gl, 0, none⟩)] w fun e w' => e = .panicked PN ∧ Keep [] w w' := by
  obtain ⟨A, c, hblk, hs, hc, hne⟩ := h
  have m0 : w.cell? ⟨gl, 0, none⟩ = some (.slice A bl.length c) := hblk.cell 0
  have m1 : w.cell? ⟨gl, 1, none⟩ = some (.int .i64 (bit : Nat)) := hblk.cell 1
  obtain ⟨b8, hb8⟩ : ∃ b8, b8 = 8 * bl.length := ⟨_, rfl⟩
  have hw8 : IntKind.i64.wrap (8 * (bl.length : Int)) = (b8 : Int) := by rw [IntKind.wrap_i64]; omega
  have hlt : ¬ (bit : Int) < b8 := by omega
  have hltb : decide ((bit : Int) < (b8 : Int)) = false := decide_eq_false hlt
  have hltn : decide (bit < b8) = false := decide_eq_false (by omega)
  have Hb := Lib.hid hblk
  clear hs hc hne hblk hb8 hb
  go_enter Tryz.func134, Tryz.ntmps134
  go_wp2
  have hS0 : w.drew.cell? ⟨gl, 0, none⟩ = some (.slice A bl.length c) ∧ w.drew.cell? ⟨gl, 1, none⟩ = some (.int .i64 (bit : Nat)) ∧ Keep [] w w.drew := ⟨m0, m1, (Keep.refl _ _).drew⟩
  clear m0 m1
  refine wp_region_G (fun W => W.cell? ⟨gl, 0, none⟩ = some (.slice A bl.length c) ∧ W.cell? ⟨gl, 1, none⟩ = some (.int .i64 (bit : Nat)) ∧ Keep [] w W) [] #[false, false, false, false, false, false, false, false, false, false, false, false] 12 (by kernel_rfl) (by kernel_rfl) (by kernel_rfl) ?_
  refine wpAnyG_take0 (i := 0) (oi := ⟨_, _, _, _, _, _⟩) (v := ?vg1_0) rfl (by kernel_rfl) (by kernel_rfl) (by kernel_rfl) (by kernel_rfl) (fun _ _ _ h => h) (fun _ => hS0) (Or.inl ⟨by rfl, ?hg1_0⟩) ?_
  case hg1_0 => intro w _; go_simp; (try with_reducible rfl)
  try simp only [Act.put, List.setIfInBounds_toArray, List.set_cons_zero, List.set_cons_succ]
  refine wpAnyG_take0 (i := 1) (oi := ⟨_, _, _, _, _, _⟩) (v := ?vg1_1) rfl (by kernel_rfl) (by kernel_rfl) (by kernel_rfl) (by kernel_rfl) (fun _ _ _ h => h) (fun _ => hS0) (Or.inl ⟨by rfl, ?hg1_1⟩) ?_
  case hg1_1 => intro w _; go_simp; (try with_reducible rfl)
  try simp only [Act.put, List.setIfInBounds_toArray, List.set_cons_zero, List.set_cons_succ]
  refine wpAnyG_take0 (i := 2) (oi := ⟨_, _, _, _, _, _⟩) (v := ?vg1_2) rfl (by kernel_rfl) (by kernel_rfl) (by kernel_rfl) (by kernel_rfl) (fun _ _ _ h => h) (fun _ => hS0) (Or.inl ⟨by rfl, ?hg1_2⟩) ?_
  case hg1_2 => intro w _; go_simp; (try with_reducible rfl)
  try simp only [Act.put, List.setIfInBounds_toArray, List.set_cons_zero, List.set_cons_succ]
  refine wpAnyG_take (i := 3) (oi := ⟨_, _, _, _, _, _⟩) (v := ?vg1_3) [3, 10, 11] rfl (by kernel_rfl) (by kernel_rfl) (by kernel_rfl) (by kernel_rfl) (by kernel_rfl) (fun _ _ _ h => h) (fun _ => hS0) (Or.inl ⟨by rfl, ?hg1_3⟩) ?_
  case hg1_3 => intro w hSw; (try dsimp only at hSw); go_simp; (try with_reducible rfl)
  try simp only [Act.put, List.setIfInBounds_toArray, List.set_cons_zero, List.set_cons_succ]
  refine wpAnyG_take0 (i := 4) (oi := ⟨_, _, _, _, _, _⟩) (v := ?vg1_4) rfl (by kernel_rfl) (by kernel_rfl) (by kernel_rfl) (by kernel_rfl) (fun _ _ _ h => h) (fun _ => hS0) (Or.inl ⟨by rfl, ?hg1_4⟩) ?_
  case hg1_4 => intro w _; go_simp; (try with_reducible rfl)
  try simp only [Act.put, List.setIfInBounds_toArray, List.set_cons_zero, List.set_cons_succ]
  refine wpAnyG_take0 (i := 5) (oi := ⟨_, _, _, _, _, _⟩) (v := ?vg1_5) rfl (by kernel_rfl) (by kernel_rfl) (by kernel_rfl) (by kernel_rfl) (fun _ _ _ h => h) (fun _ => hS0) (Or.inl ⟨by rfl, ?hg1_5⟩) ?_
  case hg1_5 => intro w _; go_simp; (try with_reducible rfl)
  try simp only [Act.put, List.setIfInBounds_toArray, List.set_cons_zero, List.set_cons_succ]
  refine wpAnyG_take0 (i := 6) (oi := ⟨_, _, _, _, _, _⟩) (v := ?vg1_6) rfl (by kernel_rfl) (by kernel_rfl) (by kernel_rfl) (by kernel_rfl) (fun _ _ _ h => h) (fun _ => hS0) (Or.inl ⟨by rfl, ?hg1_6⟩) ?_
  case hg1_6 => intro w _; go_simp; (try with_reducible rfl)
  try simp only [Act.put, List.setIfInBounds_toArray, List.set_cons_zero, List.set_cons_succ]
  refine wpAnyG_take (i := 7) (oi := ⟨_, _, _, _, _, _⟩) (v := ?vg1_7) [7, 8, 9, 10, 11] rfl (by kernel_rfl) (by kernel_rfl) (by kernel_rfl) (by kernel_rfl) (by kernel_rfl) (fun _ _ _ h => h) (fun _ => hS0) (Or.inl ⟨by rfl, ?hg1_7⟩) ?_
  case hg1_7 => intro w hSw; (try dsimp only at hSw); go_simp; (try with_reducible rfl)
  try simp only [Act.put, List.setIfInBounds_toArray, List.set_cons_zero, List.set_cons_succ]
  refine wpAnyG_take (i := 8) (oi := ⟨_, _, _, _, _, _⟩) (v := ?vg1_8) [8, 9, 10, 11] rfl (by kernel_rfl) (by kernel_rfl) (by kernel_rfl) (by kernel_rfl) (by kernel_rfl) (fun _ _ _ h => h) (fun _ => hS0) (Or.inl ⟨by rfl, ?hg1_8⟩) ?_
  case hg1_8 => intro w hSw; (try dsimp only at hSw); go_simp; (try with_reducible rfl)
  try simp only [Act.put, List.setIfInBounds_toArray, List.set_cons_zero, List.set_cons_succ]
  refine wpAnyG_take0 (i := 9) (oi := ⟨_, _, _, _, _, _⟩) (v := ?vg1_9) rfl (by kernel_rfl) (by kernel_rfl) (by kernel_rfl) (by kernel_rfl) (fun _ _ _ h => h) (fun _ => hS0) (Or.inl ⟨by rfl, ?hg1_9⟩) ?_
  case hg1_9 => intro w _; go_simp; (try with_reducible rfl)
  try simp only [Act.put, List.setIfInBounds_toArray, List.set_cons_zero, List.set_cons_succ]
  refine wpAnyG_take0 (i := 10) (oi := ⟨_, _, _, _, _, _⟩) (v := ?vg1_10) rfl (by kernel_rfl) (by kernel_rfl) (by kernel_rfl) (by kernel_rfl) (fun _ _ _ h => h) (fun _ => hS0) (Or.inl ⟨by rfl, ?hg1_10⟩) ?_
  case hg1_10 => intro w _; go_simp; (try with_reducible rfl)
  try simp only [Act.put, List.setIfInBounds_toArray, List.set_cons_zero, List.set_cons_succ]
  refine wpAnyG_step (i := 11) (oi := ⟨_, _, _, _, _, _⟩) rfl (by kernel_rfl) (by rfl) (fun K hK => ?_)
  go_simp
  go_at_call 58
  refine (must_no _).mono ?_
  rintro e w' ⟨rfl, hk⟩
  exact ⟨rfl, rfl, Keep.of_drew hk⟩
end Go.Proofs.YtdnaahbhfjclpaaGreatDoor

namespace Go.Proofs.YtdnaahbhfjclpaaGreatDoor
open Go.RowKit Go.Sal Go.Huf Go.Cod
theorem bsrc_at {w : World} {A : Option Addr} {bl : List Nat} (h : BySrc w A bl) (h0 : 0 < bl.length) : ∃ g o, A = some ⟨g, o, none⟩ ∧ g < w.heap.size ∧ ∀ j, j < bl.length → w.cell? ⟨g, o + j, none⟩ = some (.int .u8 (bl.getD j 0 : Nat)) := by
  obtain ⟨g, o, rfl, hg, _⟩ := h.1 0 h0
  refine ⟨g, o, rfl, hg, fun j hj => ?_⟩
  obtain ⟨g', o', e, _, d⟩ := h.1 j hj
  injection e with e
  injection e with e1 e2
  subst e1; subst e2
  rw [d]; simp [List.getD, hj]
set_option maxRecDepth 40000 in
set_option maxHeartbeats 4000000 in
theorem reach_any (bl : List Nat) (AB : Option Addr) (cB gf p q : Nat) (V1 V2 V3 : Value) (w : World) (hF : Blk w gf 199 #[.slice AB bl.length cB, V1, V2, V3]) (hs : BySrc w AB bl) (hl : bl.length ≤ 1000000) (hp : p < q) (hq : q < bl.length) :
    Calls Tryz.prog 140 #[.pointer (some ⟨gf, 0, none⟩), .int .i64 (p : Nat), .int .i64 (q : Nat)] w fun e w' => e = .returned (.int .i64 (rch bl p q : Nat)) ∧ ∃ m, w' = w.drewN m := by
  have m0 : w.cell? ⟨gf, 0, none⟩ = some (.slice AB bl.length cB) := hF.cell 0
  obtain ⟨g, o, rfl, hg, hd⟩ := bsrc_at hs (by omega)
  have Hd := Lib.hid hd
  have Hm := Lib.hid m0
  clear hF hs hd m0
  go_enter Tryz.func140, Tryz.ntmps140
  go_wp2
  go_loopw [7] (fun vn wx => ∃ n k : Nat, vn = .int .i64 n ∧ n ≤ 258 ∧ wx = w.drewN k ∧ Hid (rch bl p q = n + rchF bl (258 - n) (p + n) (q + n))) (fun vn _ => 258 - (intOf vn).toNat)
  case atStart => exact ⟨0, 0, rfl, by omega, rfl, Lib.hid (by simp [rch])⟩
  case round =>
    obtain ⟨n, k, rfl, hn, rfl, hI⟩ := hrel
    have m0 : w.cell? ⟨gf, 0, none⟩ = some (.slice (some ⟨g, o, none⟩) bl.length cB) := Hm.out
    have hwn : IntKind.i64.wrap ((n : Int) + 1) = (n : Int) + 1 := by rw [IntKind.wrap_i64]; omega
    rcases Nat.lt_or_ge n 258 with h1 | h1
    · have h1a : (n : Int) < 258 := by omega
      have h1b : decide ((n : Int) < 258) = true := decide_eq_true h1a
      have h1c : decide (n < 258) = true := decide_eq_true h1
      obtain ⟨pn, hpn⟩ : ∃ pn, p + n = pn := ⟨_, rfl⟩
      obtain ⟨qn, hqn⟩ : ∃ qn, q + n = qn := ⟨_, rfl⟩
      have hwp : IntKind.i64.wrap ((p : Int) + (n : Int)) = (pn : Int) := by rw [IntKind.wrap_i64]; omega
      have hwq : IntKind.i64.wrap ((q : Int) + (n : Int)) = (qn : Int) := by rw [IntKind.wrap_i64]; omega
      have hpq : pn < qn := by omega
      have hI2 := hI.out
      rw [hpn, hqn, show 258 - n = (257 - n) + 1 by omega, rchF] at hI2
      rcases Nat.lt_or_ge qn bl.length with h2 | h2
      · have h2a : (qn : Int) < bl.length := by omega
        have h2b : decide ((qn : Int) < (bl.length : Int)) = true := decide_eq_true h2a
        have h2c : decide (qn < bl.length) = true := decide_eq_true h2
        have h3a : (pn : Int) < bl.length := by omega
        have d1 : w.cell? ⟨g, o + pn, none⟩ = some (.int .u8 (bl.getD pn 0 : Nat)) := Hd.out pn (by omega)
        have d2 : w.cell? ⟨g, o + qn, none⟩ = some (.int .u8 (bl.getD qn 0 : Nat)) := Hd.out qn h2
        by_cases h4 : bl.getD pn 0 = bl.getD qn 0
        · have HN : Hid (rch bl p q = n + 1 + rchF bl (258 - (n + 1)) (p + (n + 1)) (q + (n + 1))) := Lib.hid (by
            rw [if_pos ⟨h2, h4⟩] at hI2
            rw [hI2, show 258 - (n + 1) = 257 - n by omega, show p + (n + 1) = pn + 1 by omega, show q + (n + 1) = qn + 1 by omega]
            omega)
          rw [h4] at d1
          generalize bl.getD qn 0 = y at *
          clear hI hI2 h4 hpn hqn
          go_wp2
          go_quiet (fail)
          go_wp2
          go_roundw
          case rel => exact ⟨n + 1, _, by simp, by omega, rfl, HN⟩
          case measure => simp [intOf]; omega
        · have HE : Hid (rch bl p q = n) := Lib.hid (by
            rw [if_neg (fun h => h4 h.2)] at hI2
            omega)
          have hne : ((bl.getD pn 0 : Int) == (bl.getD qn 0 : Int)) = false := by simpa using (by omega : ((bl.getD pn 0 : Nat) : Int) ≠ (bl.getD qn 0 : Nat))
          have hne2 : (bl.getD pn 0 == bl.getD qn 0) = false := by simpa using h4
          generalize bl.getD pn 0 = x at *
          generalize bl.getD qn 0 = y at *
          clear hI hI2 h4 hpn hqn
          go_wp2
          go_quiet (fail)
          go_wp2
          go_ret
          exact ⟨by rw [HE.out]; rfl, _, drewN2 _ _ _⟩
      · have h2a : ¬ (qn : Int) < bl.length := by omega
        have h2b : decide ((qn : Int) < (bl.length : Int)) = false := decide_eq_false h2a
        have h2c : decide (qn < bl.length) = false := decide_eq_false (by omega)
        have HE : Hid (rch bl p q = n) := Lib.hid (by
          rw [if_neg (fun h => by omega)] at hI2
          omega)
        clear hI hI2 hpn hqn
        go_wp2
        go_quiet (fail)
        go_wp2
        go_ret
        exact ⟨by rw [HE.out]; rfl, _, drewN2 _ _ _⟩
    · obtain rfl : n = 258 := by omega
      have HE : Hid (rch bl p q = 258) := Lib.hid (by
        have := hI.out
        rw [show 258 - 258 = 0 by rfl, rchF] at this
        omega)
      clear hI hwn
      go_wp2
      go_quiet (fail)
      go_wp2
      go_ret
      exact ⟨by rw [HE.out]; rfl, _, drewN2 _ _ _⟩
end Go.Proofs.YtdnaahbhfjclpaaGreatDoor

