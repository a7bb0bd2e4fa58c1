/- The tree of counts, walked. -/
import Derived.Test.YtdnaahbhfjclpaaGreatDoorHfK
import Derived.Test.YtdnaahbhfjclpaaGreatDoorWc
set_option linter.unusedVariables false
set_option linter.unusedSimpArgs false
namespace Go.Huf
def byteAt (l : List Bool) (k : Nat) : Nat := sumR (fun i => if l.getD (8 * k + i) false then 2 ^ (7 - i) else 0) 8
def pack (l : List Bool) : List Nat := (List.range ((l.length + 7) / 8)).map (byteAt l)
def packO (l : List Bool) : List Nat := (List.range (l.length / 8 + 1)).map (byteAt l)
theorem byteAt_lt (l : List Bool) (k : Nat) : byteAt l k < 256 := by
  have h : byteAt l k ≤ sumR (fun i => 2 ^ (7 - i)) 8 := sumR_le 8 (fun i _ => by
    split
    · exact Nat.le_refl _
    · exact Nat.zero_le _)
  have : sumR (fun i => 2 ^ (7 - i)) 8 = 255 := by decide
  omega
theorem byteAt_none {l : List Bool} {k : Nat} (h : l.length ≤ 8 * k) : byteAt l k = 0 :=
  sumR_zero 8 (fun i _ => by rw [if_neg]; simp [List.getD, List.getElem?_eq_none (show l.length ≤ 8 * k + i by omega)])
theorem pack_lt {l : List Bool} : ∀ x ∈ pack l, x < 256 := by
  intro x hx
  obtain ⟨k, _, rfl⟩ := List.mem_map.1 hx
  exact byteAt_lt _ _
theorem pack_len (l : List Bool) : (pack l).length = (l.length + 7) / 8 := by simp [pack]
theorem packO_len (l : List Bool) : (packO l).length = l.length / 8 + 1 := by simp [packO]
theorem packO_new {l : List Bool} (h : l.length % 8 = 0) : packO l = pack l ++ [0] := by
  unfold packO pack
  rw [List.range_succ, List.map_append, show (l.length + 7) / 8 = l.length / 8 by omega]
  simp only [List.map_cons, List.map_nil]
  rw [byteAt_none (by omega)]
theorem packO_old {l : List Bool} (h : l.length % 8 ≠ 0) : packO l = pack l := by
  unfold packO pack
  rw [show (l.length + 7) / 8 = l.length / 8 + 1 by omega]
theorem byteAt_snoc (l : List Bool) (x : Bool) (k : Nat) : byteAt (l ++ [x]) k = byteAt l k + (if k = l.length / 8 then (if x then 2 ^ (7 - l.length % 8) else 0) else 0) := by
  generalize hy : (if k = l.length / 8 then (if x then 2 ^ (7 - l.length % 8) else 0) else 0) = y
  have h1 : sumR (fun i => if i = l.length % 8 then y else 0) 8 = y := by rw [sumR_point, if_pos (by omega)]
  conv => rhs; rw [← h1]
  unfold byteAt
  rw [← sumR_add]
  refine sumR_congr 8 (fun i hi => ?_)
  have hz : ∀ a b : Nat, a = b → (i = l.length % 8 → y = 0) → a = b + (if i = l.length % 8 then y else 0) := fun a b e h => by
    by_cases h2 : i = l.length % 8
    · rw [if_pos h2, h h2, e]; rfl
    · rw [if_neg h2, e]; rfl
  by_cases hlt : 8 * k + i < l.length
  · have : (l ++ [x]).getD (8 * k + i) false = l.getD (8 * k + i) false := by simp [List.getD, List.getElem?_append_left hlt]
    rw [this]
    refine hz _ _ rfl (fun h2 => ?_)
    rw [← hy, if_neg (by omega)]
  · have h4 : l.getD (8 * k + i) false = false := by simp [List.getD, List.getElem?_eq_none (show l.length ≤ 8 * k + i by omega)]
    by_cases he : 8 * k + i = l.length
    · have h3 : (l ++ [x]).getD (8 * k + i) false = x := by rw [he]; simp [List.getD]
      rw [h3, h4, if_pos (show i = l.length % 8 by omega), ← hy, if_pos (show k = l.length / 8 by omega), show l.length % 8 = i by omega]
      simp
    · have h3 : (l ++ [x]).getD (8 * k + i) false = false := by simp [List.getD, List.getElem?_eq_none (show (l ++ [x]).length ≤ 8 * k + i by simp; omega)]
      rw [h3, h4]
      refine hz _ _ rfl (fun h2 => ?_)
      rw [← hy, if_neg (by omega)]
theorem pack_snoc (l : List Bool) (x : Bool) : (packO l).set (l.length / 8) (byteAt l (l.length / 8) + (if x then 2 ^ (7 - l.length % 8) else 0)) = pack (l ++ [x]) := by
  apply List.ext_getElem
  · rw [List.length_set, packO_len, pack_len, List.length_append, List.length_singleton]; omega
  · intro k h1 h2
    rw [List.length_set, packO_len] at h1
    rw [List.getElem_set]
    simp only [packO, pack, List.getElem_map, List.getElem_range]
    rw [byteAt_snoc]
    by_cases h3 : l.length / 8 = k
    · subst h3; simp
    · rw [if_neg h3, if_neg (fun e => h3 e.symm)]; rfl
theorem packO_get (l : List Bool) {k : Nat} (h : k < (packO l).length) : (packO l)[k] = byteAt l k := by simp [packO]
theorem byteAt_low (l : List Bool) : 2 ^ (7 - l.length % 8 + 1) ∣ byteAt l (l.length / 8) := by
  refine sumR_dvd 8 (fun i hi => ?_)
  by_cases h : i < l.length % 8
  · split
    · exact Nat.pow_dvd_pow 2 (by omega)
    · exact Nat.dvd_zero _
  · have h4 : l.getD (8 * (l.length / 8) + i) false = false := by simp [List.getD, List.getElem?_eq_none (show l.length ≤ 8 * (l.length / 8) + i by omega)]
    rw [h4]
    exact Nat.dvd_zero _
theorem or_add {a e : Nat} (h : 2 ^ (e + 1) ∣ a) : a ||| 2 ^ e = a + 2 ^ e := by
  obtain ⟨q, rfl⟩ := h
  rw [Nat.two_pow_add_eq_or_of_lt (Nat.pow_lt_pow_right (by omega) (by omega)) q]
def b2n (x : Bool) : Nat := if x then 1 else 0
theorem byte_or (l : List Bool) (x : Bool) : byteAt l (l.length / 8) ||| b2n x * 2 ^ (7 - l.length % 8) = byteAt l (l.length / 8) + (if x then 2 ^ (7 - l.length % 8) else 0) := by
  cases x
  · simp [b2n]
  · simp only [b2n, if_true, Nat.one_mul]
    exact or_add (byteAt_low l)
theorem byte_or_lt (l : List Bool) (x : Bool) : byteAt l (l.length / 8) + (if x then 2 ^ (7 - l.length % 8) else 0) < 256 := by
  have h := byteAt_lt (l ++ [x]) (l.length / 8)
  rw [byteAt_snoc, if_pos rfl] at h
  exact h
def bitAt (c n j : Nat) : Bool := decide (c / 2 ^ (n - 1 - j) % 2 = 1)
def bitsK (c n : Nat) : List Bool := (List.range n).map (bitAt c n)
theorem bitsK_len (c n : Nat) : (bitsK c n).length = n := by simp [bitsK]
theorem bitsK_take (c n : Nat) {j : Nat} (h : j < n) : (bitsK c n).take j ++ [bitAt c n j] = (bitsK c n).take (j + 1) := by
  rw [List.take_succ_eq_append_getElem (by rw [bitsK_len]; exact h)]
  simp [bitsK]
theorem b2n_bit (c n j : Nat) : b2n (bitAt c n j) = c / 2 ^ (n - 1 - j) % 2 := by
  unfold b2n bitAt
  by_cases h : c / 2 ^ (n - 1 - j) % 2 = 1
  · simp [h]
  · simp [h]; omega
def okS (ls : List Int) (s : Int) : Prop := 0 ≤ s ∧ s < ls.length ∧ ln ls s.toNat ≠ 0
instance (ls : List Int) (s : Int) : Decidable (okS ls s) := by unfold okS; infer_instance
def symBits (ls : List Int) (s : Int) : List Bool := bitsK (codeV ls s.toNat) (ln ls s.toNat).toNat
def bitsOf (ls : List Int) (ss : List Int) : List Bool := ss.flatMap (symBits ls)
theorem bitsOf_snoc (ls ss : List Int) (s : Int) : bitsOf ls (ss ++ [s]) = bitsOf ls ss ++ symBits ls s := by simp [bitsOf]
theorem or8 {a b : Nat} (ha : a < 256) (hb : b < 256) : (BitVec.ofInt 8 (a : Int) ||| BitVec.ofInt 8 (b : Int)).toNat = a ||| b := by
  rw [BitVec.toNat_or, BitVec.ofInt_natCast, BitVec.ofInt_natCast, BitVec.toNat_ofNat, BitVec.toNat_ofNat, Nat.mod_eq_of_lt (by omega), Nat.mod_eq_of_lt (by omega)]
end Go.Huf
namespace Go.Huf
section
variable {ls : List Int}
theorem code_room {s : Nat} (hp : 0 < ln ls s) : codeV ls s * p2 (ln ls s).toNat = preN ls (ln ls s).toNat s := by
  unfold codeV
  rw [if_pos hp]
  exact Nat.div_mul_cancel preN_dvd
theorem pre_ahead {a b : Nat} (ha : a < ls.length) (hpa : 0 < ln ls a) (hpb : 0 < ln ls b) (h : ln ls a < ln ls b ∨ ln ls a = ln ls b ∧ a < b) : preN ls (ln ls a).toNat a + p2 (ln ls a).toNat ≤ preN ls (ln ls b).toNat b := by
  have h1 : p2 (ln ls a).toNat = sumR (fun j => if j = a then p2 (ln ls a).toNat else 0) ls.length := by rw [sumR_point, if_pos ha]
  rw [h1]
  unfold preN
  rw [← sumR_add]
  refine sumR_le _ (fun j hj => ?_)
  by_cases hja : j = a
  · subst hja
    rw [if_neg (show ¬ ahead ls (ln ls j).toNat j j by unfold ahead; omega), if_pos (show j = j from rfl), if_pos (show ahead ls (ln ls b).toNat b j by unfold ahead; omega)]
    unfold pj
    rw [if_pos hpa]
    omega
  · rw [if_neg hja]
    by_cases h2 : ahead ls (ln ls a).toNat a j
    · rw [if_pos h2, if_pos (show ahead ls (ln ls b).toNat b j by unfold ahead at *; omega)]
      omega
    · rw [if_neg h2]
      omega
theorem div_back {c a d : Nat} (h : a = c / 2 ^ d) : a * 2 ^ d ≤ c ∧ c < (a + 1) * 2 ^ d := by
  have h1 := Nat.two_pow_pos d
  subst h
  refine ⟨Nat.div_mul_le_self _ _, ?_⟩
  have h2 := Nat.div_add_mod c (2 ^ d)
  have h3 := Nat.mod_lt c h1
  rw [Nat.add_mul, Nat.one_mul, Nat.mul_comm]
  omega
theorem code_apart {a b : Nat} (hok : okL ls) (ha : a < ls.length) (hb : b < ls.length) (hpa : 0 < ln ls a) (hab : ln ls a ≤ ln ls b) (h : codeV ls a = codeV ls b / 2 ^ ((ln ls b).toNat - (ln ls a).toNat)) : a = b := by
  have hga := ln_good hok.2.1 a
  have hgb := ln_good hok.2.1 b
  have hpb : 0 < ln ls b := by omega
  have ra := code_room hpa
  have rb := code_room hpb
  obtain ⟨h1, h2⟩ := div_back h
  have hs := p2_sub (m := (ln ls a).toNat) (n := (ln ls b).toNat) (by omega) (by omega)
  have h3 := Nat.mul_le_mul_right (p2 (ln ls b).toNat) h1
  have h4 := Nat.mul_lt_mul_of_pos_right h2 (p2_pos (ln ls b).toNat)
  rw [Nat.mul_assoc, Nat.mul_comm (2 ^ _), ← hs, ra, rb] at h3
  rw [Nat.mul_assoc, Nat.mul_comm (2 ^ _), ← hs, Nat.add_mul, ra, rb, Nat.one_mul] at h4
  apply Classical.byContradiction
  intro hne
  rcases Nat.lt_or_ge a b with hlt | hge
  · have := pre_ahead ha hpa hpb (by omega)
    omega
  · by_cases he : ln ls a = ln ls b
    · have := pre_ahead hb hpb hpa (by omega)
      have hp := p2_pos (ln ls b).toNat
      omega
    · have := pre_ahead ha hpa hpb (by omega)
      omega
end
end Go.Huf

namespace Go.Proofs.YtdnaahbhfjclpaaGreatDoor
open Go.RowKit Go.Sal Go.Huf
theorem fits_src {P : Program} (w : World) (base : Nat) (t ty e : TypeId) (z : Value) (size bytes : Nat) (ht : P.underlying t = some (.slice e)) (hinfo : (P.info? e).map (fun i => (i.zero, i.size, i.bytes)) = some (some z, size, bytes))
    (g n cap : Nat) (xs : List Value) (hown : w.ownsRow base e size (.slice (some ⟨g, 0, none⟩) n cap) n xs) (A : Addr) (m c : Nat) (news : List Value) (hs : Src w size (some A) m news) (h1 : ∀ u ∈ news, u.oneCell' = true) (hroom : n + m ≤ cap) (hsz : 0 < size) :
    ∃ w', (Builtin.append_ #[t, t] ty #[.slice (some ⟨g, 0, none⟩) n cap, .slice (some A) m c]).run P w = .ok (.slice (some ⟨g, 0, none⟩) (n + m) cap) w' ∧
      w'.ownsRow base e size (.slice (some ⟨g, 0, none⟩) (n + m) cap) (n + m) (xs ++ news) ∧ w.grownBy w' (some g) := by
  obtain ⟨i, hi, hsize⟩ : ∃ i, P.info? e = some i ∧ i.size = size := by
    cases hx : P.info? e with
    | none => rw [hx] at hinfo; cases hinfo
    | some i =>
      rw [hx] at hinfo
      simp only [Option.map_some, Option.some.injEq, Prod.mk.injEq] at hinfo
      exact ⟨i, rfl, hinfo.2.1⟩
  refine run_append_fits (P := P) w base t ty e i size ht hi hsize g n cap xs hown A m c news hs.1 ?_ h1 hroom
  intro j u hu
  rcases Nat.eq_zero_or_pos m with h0 | h0
  · subst h0
    have : news = [] := List.eq_nil_of_length_eq_zero (by have := hs.1; simpa using this)
    subst this
    simp at hu
  · obtain ⟨a', ha, hc⟩ := hs.2 h0
    injection ha with ha
    subst ha
    exact hc j u hu
set_option maxRecDepth 20000 in
set_option maxHeartbeats 2000000 in
theorem delete_any (base g n cap k : Nat) (xs : List Value) (w : World) (hown : w.ownsRow base 3 1 (.slice (some ⟨g, 0, none⟩) n cap) n xs) (h1 : ∀ u ∈ xs, u.oneCell' = true) (hk : k < n) (hn : n ≤ 100000) (hcap : n ≤ cap) (hcm : cap ≤ 9223372036854775807) :
    Calls Tryz.prog 165 #[.slice (some ⟨g, 0, none⟩) n cap, .int .i64 (k : Int), .int .i64 ((k : Int) + 1)] w fun e w' => e = .returned (.slice (some ⟨g, 0, none⟩) (n - 1) cap) ∧
      w'.ownsRow base 3 1 (.slice (some ⟨g, 0, none⟩) (n - 1) cap) (n - 1) (xs.eraseIdx k) ∧ Keep [g] w w' := by
  obtain ⟨tl, htl⟩ : ∃ tl : Addr, tl = (if cap = k + 1 then (⟨g, 0, none⟩ : Addr) else ⟨g, k + 1, none⟩) := ⟨_, rfl⟩
  obtain ⟨mm, mc, hmm⟩ : ∃ mm mc, mm = n - (k + 1) ∧ mc = cap - (k + 1) := ⟨_, _, rfl, rfl⟩
  obtain ⟨nn, hnn⟩ : ∃ nn, nn = n - 1 := ⟨_, rfl⟩
  rw [← hnn]
  have hs1 := fun W => slice_head (P := Tryz.prog) 140 3 Tryz.underlying140 (some ⟨g, 0, none⟩) n cap k (by omega) W 1 (by kernel_rfl)
  have hs2 : ∀ W, (Instr.slice 140 (.slice (some ⟨g, 0, none⟩) n cap) (some (.int .i64 ((k : Int) + 1))) none none).run Tryz.prog W = .ok (.slice (some tl) mm mc) W := fun W => by
    have h := slice_tail (P := Tryz.prog) 140 3 Tryz.underlying140 (some ⟨g, 0, none⟩) n cap (k + 1) (by omega) W 1 (by kernel_rfl)
    rw [Int.natCast_add] at h
    rw [htl, hmm.1, hmm.2]
    have e : (if cap = k + 1 then (some ⟨g, 0, none⟩ : Option Addr) else Option.map (fun x : Addr => x.add ((k + 1) * 1)) (some ⟨g, 0, none⟩)) = some (if cap = k + 1 then (⟨g, 0, none⟩ : Addr) else ⟨g, k + 1, none⟩) := by
      split
      · rfl
      · simp [add_mk]
    rw [← e]
    exact h
  have hlen : xs.length = n := by have := hown.1; omega
  -- the append, in place
  have hshort : w.drew.ownsRow base 3 1 (.slice (some ⟨g, 0, none⟩) k cap) k (xs.take k) := by
    have h := own_short (k := k) hown (by omega)
    rw [Nat.mul_one] at h
    exact h
  have hsrc : Src w.drew 1 (some tl) mm (xs.drop (k + 1)) := by
    have h := (Src.of_own hown).tail (k := k + 1) (cap := cap) (by omega) hcap
    rw [htl, hmm.1]
    have e : (if cap = k + 1 then (some ⟨g, 0, none⟩ : Option Addr) else Option.map (fun x : Addr => x.add ((k + 1) * 1)) (some ⟨g, 0, none⟩)) = some (if cap = k + 1 then (⟨g, 0, none⟩ : Addr) else ⟨g, k + 1, none⟩) := by
      split
      · rfl
      · simp [add_mk]
    rw [e, Nat.mul_one] at h
    exact h
  obtain ⟨w1, hap, hown1, hg1⟩ := fits_src (P := Tryz.prog) w.drew base 140 140 3 (.int .i64 0) 1 8 Tryz.underlying140 intinfo g k cap _ hshort tl mm mc _ hsrc (fun u hu => h1 u (List.mem_of_mem_drop hu)) (by omega) (by omega)
  have hkm : k + mm = nn := by omega
  rw [hkm] at hap hown1
  have hk1 : Keep [g] w w1 := (((Keep.refl [g] w).drew)).grown hg1 (fun j hj => by injection hj with hj; left; simp [hj])
  obtain ⟨hr1, hr2⟩ := own_room hown1 (j := nn) (by omega)
  have hsl3 : ∀ W, (Instr.slice 140 (.slice (some ⟨g, 0, none⟩) nn cap) (some (.int .i64 (nn : Int))) (some (.int .i64 (n : Int))) none).run Tryz.prog W = .ok (.slice (some ⟨g, nn, none⟩) 1 (cap - nn)) W := fun W => by
    have hi : ∃ i, Tryz.prog.info? 3 = some i ∧ i.size = 1 := by
      cases hx : Tryz.prog.info? 3 with
      | none => have := intinfo; rw [hx] at this; cases this
      | some i =>
        have := intinfo
        rw [hx] at this
        simp only [Option.map_some, Option.some.injEq, Prod.mk.injEq] at this
        exact ⟨i, rfl, this.2.1⟩
    obtain ⟨i, hi, hi1⟩ := hi
    have hc1 : ¬ cap = nn := by omega
    have hc2 : nn ≤ n := by omega
    have hc3 : n ≤ cap := hcap
    have hc4 : n - nn = 1 := by omega
    simp [Instr.slice, run_underlying Tryz.underlying140, Instr.sliceBounds, Instr.sliceBound, asIntOf, sizeOf, typeInfo, hi, hi1, hc1, hc2, hc3, hc4, Addr.add]
    omega
  have hcl : ∀ ty, (Builtin.clear_ #[140] ty #[.slice (some ⟨g, nn, none⟩) 1 (cap - nn)]).run Tryz.prog w1 = .ok (.tuple #[]) (w1.setCell ⟨g, nn, none⟩ (.int .i64 0)) := fun ty => by
    have h := Lib.run_clear_slice (P := Tryz.prog) w1 140 3 ty (.int .i64 0) Tryz.underlying140 (fun w => by kernel_rfl) rfl rfl g nn 1 (cap - nn) (by omega) (fun j hj => by
      obtain rfl : j = 0 := by omega
      exact hr1) (fun j hj => by
      obtain rfl : j = 0 := by omega
      exact hr2)
    simpa [World.setCells] using h
  have hfin : (w1.setCell ⟨g, nn, none⟩ (.int .i64 0)).ownsRow base 3 1 (.slice (some ⟨g, 0, none⟩) nn cap) nn (xs.eraseIdx k) := by
    rw [eraseIdx_take_drop]
    exact own_beyond hown1 nn (by omega) _
  have hkf : Keep [g] w (w1.setCell ⟨g, nn, none⟩ (.int .i64 0)) := hk1.setCell (.inl (by simp)) _
  have Hfin := Lib.hid (And.intro hfin hkf)
  have hne : ((k : Int) == (k : Int) + 1) = false := by simp; omega
  have hkn : k ≤ k + 1 ∧ k + 1 ≤ n := by omega
  have hk2 : k + 1 ≤ n := hkn.2
  clear hkm hkn hown h1 hshort hsrc hown1 hg1 hk1 hr1 hr2 hfin hkf htl hmm hlen hnn
  go_enter Tryz.func165, Tryz.ntmps165
  go_wp2_with fail
  refine wp_region_G (fun _ => True) [6] #[false, false, false, false, false, false, false, false] 8 (by kernel_rfl) (by kernel_rfl) (by kernel_rfl) ?_
  refine wpAnyG_take0 (i := 0) (oi := ⟨_, _, _, _, _, _⟩) (v := ?vg1_0) rfl (by kernel_rfl) (by kernel_rfl) (by kernel_rfl) (by kernel_rfl) (fun _ _ _ h => h) (fun _ => trivial) (Or.inl ⟨by rfl, ?hg1_0⟩) ?_
  case hg1_0 => intro w _; go_simp; (try with_reducible rfl)
  try simp only [Act.put, List.setIfInBounds_toArray, List.set_cons_zero, List.set_cons_succ]
  refine wpAnyG_take0 (i := 1) (oi := ⟨_, _, _, _, _, _⟩) (v := ?vg1_1) rfl (by kernel_rfl) (by kernel_rfl) (by kernel_rfl) (by kernel_rfl) (fun _ _ _ h => h) (fun _ => trivial) (Or.inl ⟨by rfl, ?hg1_1⟩) ?_
  case hg1_1 => intro w _; go_simp; (try with_reducible rfl)
  try simp only [Act.put, List.setIfInBounds_toArray, List.set_cons_zero, List.set_cons_succ]
  refine wpAnyG_take0 (i := 2) (oi := ⟨_, _, _, _, _, _⟩) (v := ?vg1_2) rfl (by kernel_rfl) (by kernel_rfl) (by kernel_rfl) (by kernel_rfl) (fun _ _ _ h => h) (fun _ => trivial) (Or.inl ⟨by rfl, ?hg1_2⟩) ?_
  case hg1_2 => intro w _; go_simp; (try with_reducible rfl)
  try simp only [Act.put, List.setIfInBounds_toArray, List.set_cons_zero, List.set_cons_succ]
  refine wpAnyG_take0 (i := 3) (oi := ⟨_, _, _, _, _, _⟩) (v := ?vg1_3) rfl (by kernel_rfl) (by kernel_rfl) (by kernel_rfl) (by kernel_rfl) (fun _ _ _ h => h) (fun _ => trivial) (Or.inl ⟨by rfl, ?hg1_3⟩) ?_
  case hg1_3 => intro w _; go_simp; (try with_reducible rfl)
  try simp only [Act.put, List.setIfInBounds_toArray, List.set_cons_zero, List.set_cons_succ]
  refine wpAnyG_take0 (i := 4) (oi := ⟨_, _, _, _, _, _⟩) (v := ?vg1_4) rfl (by kernel_rfl) (by kernel_rfl) (by kernel_rfl) (by kernel_rfl) (fun _ _ _ h => h) (fun _ => trivial) (Or.inl ⟨by rfl, ?hg1_4⟩) ?_
  case hg1_4 => intro w _; go_simp; (try with_reducible rfl)
  try simp only [Act.put, List.setIfInBounds_toArray, List.set_cons_zero, List.set_cons_succ]
  refine wpAnyG_take0 (i := 5) (oi := ⟨_, _, _, _, _, _⟩) (v := ?vg1_5) rfl (by kernel_rfl) (by kernel_rfl) (by kernel_rfl) (by kernel_rfl) (fun _ _ _ h => h) (fun _ => trivial) (Or.inl ⟨by rfl, ?hg1_5⟩) ?_
  case hg1_5 => intro w _; go_simp; (try with_reducible rfl)
  try simp only [Act.put, List.setIfInBounds_toArray, List.set_cons_zero, List.set_cons_succ]
  refine wpAnyG_step (i := 6) (oi := ⟨_, _, _, _, _, _⟩) rfl (by kernel_rfl) (by rfl) (fun K hK => ?_)
  refine wp_append2 (v1 := .slice (some ⟨g, 0, none⟩) k cap) (v2 := .slice (some tl) mm mc) (.tmp 22) (.tmp 25) rfl rfl rfl hap ?_
  refine hK _ _ (fun h => absurd h (Bool.eq_false_iff.1 (by kernel_rfl))) (fun _ => ?_)
  clear hK
  try simp only [Act.put, List.setIfInBounds_toArray, List.set_cons_zero, List.set_cons_succ]
  refine wpAnyG_take0 (i := 7) (oi := ⟨_, _, _, _, _, _⟩) (v := ?vg1_7) rfl (by kernel_rfl) (by kernel_rfl) (by kernel_rfl) (by kernel_rfl) (fun _ _ _ h => h) (fun h => absurd h (Bool.eq_false_iff.1 (by kernel_rfl))) (Or.inl ⟨by rfl, ?hg1_7⟩) ?_
  case hg1_7 => intro w _; go_simp; (try with_reducible rfl)
  try simp only [Act.put, List.setIfInBounds_toArray, List.set_cons_zero, List.set_cons_succ]
  refine wpAnyG_done (by kernel_rfl) ?_ _
  clear hap hs1 hs2
  go_wp2
  go_ret
  exact ⟨rfl, Hfin.out.1, Hfin.out.2⟩
end Go.Proofs.YtdnaahbhfjclpaaGreatDoor

namespace Go.Proofs.YtdnaahbhfjclpaaGreatDoor
open Go.RowKit Go.Sal Go.Huf
theorem nd_cell {w : World} {base g n cap i : Nat} {l : List (Int × Int)} (h : w.ownsRow base 224 2 (.slice (some ⟨g, 0, none⟩) n cap) n (l.flatMap ncells)) (hi : i < l.length) :
    w.cell? ⟨g, i * 2, none⟩ = some (.int .i64 (wt l i)) ∧ w.cell? ⟨g, i * 2 + 1, none⟩ = some (.int .i64 (up1 l i)) ∧ w.frozen? ⟨g, i * 2 + 1, none⟩ = false := by
  have e : l.getD i (0, -1) = l[i] := by simp [List.getD, hi]
  have q0 := ownsRow_cell h (show (l.flatMap ncells)[i * 2]? = some (.int .i64 (wt l i)) by
    have := rf_get ncells_len l i 0 hi (by omega)
    rw [Nat.add_zero] at this
    rw [this, wt, e]; rfl)
  have q1 := ownsRow_cell h (show (l.flatMap ncells)[i * 2 + 1]? = some (.int .i64 (up1 l i)) by
    rw [rf_get ncells_len l i 1 hi (by omega), up1, e]; rfl)
  exact ⟨q0.1, q1.1, q1.2⟩
theorem inN_cell {w : World} {base g n cap i : Nat} {l : List Nat} (h : w.ownsRow base 3 1 (.slice (some ⟨g, 0, none⟩) n cap) n (inN l)) (hi : i < l.length) :
    w.cell? ⟨g, i, none⟩ = some (.int .i64 (l.getD i 0 : Nat)) := by
  have e : l.getD i 0 = l[i] := by simp [List.getD, hi]
  exact (ownsRow_cell h (show (inN l)[i]? = some (.int .i64 (l.getD i 0 : Nat)) by rw [e]; simp [inN, hi])).1
theorem own_cap {w : World} {base n size cap g : Nat} {e : TypeId} {xs : List Value} (h : w.ownsRow base e size (.slice (some ⟨g, 0, none⟩) n cap) n xs) : n ≤ cap ∧ cap ≤ maxLen := by
  rcases h.2 with ⟨h0, _⟩ | ⟨g', cap', cur, hv, hb, hh, h1, h2, _⟩
  · cases h0
  · injection hv with _ _ hv2
    subst hv2
    exact ⟨h1, h2⟩
set_option maxRecDepth 20000 in
set_option maxHeartbeats 2000000 in
theorem least_any (base bf bl gf cf gl cl : Nat) (free : List Nat) (nodes : List (Int × Int)) (w : World) (hF : Blk w bf 140 #[.slice (some ⟨gf, 0, none⟩) free.length cf]) (hL : Blk w bl 221 #[.slice (some ⟨gl, 0, none⟩) nodes.length cl])
    (hof : w.ownsRow base 3 1 (.slice (some ⟨gf, 0, none⟩) free.length cf) free.length (inN free)) (hol : w.ownsRow base 224 2 (.slice (some ⟨gl, 0, none⟩) nodes.length cl) nodes.length (nodes.flatMap ncells))
    (h0 : 0 < free.length) (hin : ∀ v ∈ free, v < nodes.length) (hn : nodes.length ≤ 10000) (hfl : free.length ≤ 10000) :
    Calls Tryz.prog 164 #[.pointer (some ⟨bf, 0, none⟩), .pointer (some ⟨bl, 0, none⟩)] w fun e w' => e = .returned (.int .i64 (free.getD (leastK nodes free) 0 : Nat)) ∧
      Blk w' bf 140 #[.slice (some ⟨gf, 0, none⟩) (free.length - 1) cf] ∧ w'.ownsRow base 3 1 (.slice (some ⟨gf, 0, none⟩) (free.length - 1) cf) (free.length - 1) (inN (free.eraseIdx (leastK nodes free))) ∧ Keep [bf, gf] w w' := by
  have cF : w.cell? ⟨bf, 0, none⟩ = some (.slice (some ⟨gf, 0, none⟩) free.length cf) := hF.cell 0
  have cL : w.cell? ⟨bl, 0, none⟩ = some (.slice (some ⟨gl, 0, none⟩) nodes.length cl) := hL.cell 0
  obtain ⟨hc1, hc2⟩ := own_cap hof
  unfold maxLen at hc2
  have hfr : ∀ j, j < free.length → free.getD j 0 < nodes.length := fun j hj => hin _ (getD_mem hj)
  have hcf : ∀ j, j < free.length → w.cell? ⟨gf, j, none⟩ = some (.int .i64 (free.getD j 0 : Nat)) := fun j hj => inN_cell hof hj
  have hcn : ∀ i, i < nodes.length → w.cell? ⟨gl, i * 2, none⟩ = some (.int .i64 (wt nodes i)) := fun i hi => (nd_cell hol hi).1
  have Hfr := Lib.hid hfr
  have Hcf := Lib.hid hcf
  have Hcn := Lib.hid hcn
  have HF := Lib.hid hF
  have Hof := Lib.hid hof
  have hk := leastK_lt (l := nodes) h0
  obtain ⟨nn, hnn⟩ : ∃ nn, nn = free.length - 1 := ⟨_, rfl⟩
  have hdel : ∀ W : World, W.ownsRow base 3 1 (.slice (some ⟨gf, 0, none⟩) free.length cf) free.length (inN free) → Calls Tryz.prog 165 #[.slice (some ⟨gf, 0, none⟩) free.length cf, .int .i64 (leastK nodes free : Int), .int .i64 ((leastK nodes free : Int) + 1)] W fun e w' => e = .returned (.slice (some ⟨gf, 0, none⟩) nn cf) ∧
      w'.ownsRow base 3 1 (.slice (some ⟨gf, 0, none⟩) nn cf) nn ((inN free).eraseIdx (leastK nodes free)) ∧ Keep [gf] W w' := fun W h => by
    rw [hnn]
    exact delete_any base gf free.length cf (leastK nodes free) (inN free) W h (inN_one free) hk (by omega) hc1 hc2
  have her : (inN free).eraseIdx (leastK nodes free) = inN (free.eraseIdx (leastK nodes free)) := (map_eraseIdx' _ _ _).symm
  rw [← hnn]
  have y0 := hcf _ hk
  obtain ⟨k, hkk⟩ : ∃ k, k = leastK nodes free := ⟨_, rfl⟩
  have Hsk : Hid (scanK nodes free free.length = k) := Lib.hid hkk.symm
  rw [← hkk] at hdel her y0 hk ⊢
  obtain ⟨fk, hfk⟩ : ∃ fk, fk = free.getD k 0 := ⟨_, rfl⟩
  rw [← hfk] at y0 ⊢
  have Hdel := Lib.hid hdel
  have Her := Lib.hid her
  have Y0 := Lib.hid y0
  clear hF hL hof hol hin hfr hcf hcn hdel her hnn hkk hfk y0
  go_enter Tryz.func164, Tryz.ntmps164
  go_wp2
  go_loopw [3, 9] (fun kk i wr => ∃ j q : Nat, i = .int .i64 j ∧ j ≤ free.length ∧ kk = .int .i64 (scanK nodes free j : Nat) ∧ wr = w.drewN q) (fun _ i _ => free.length - (intOf i).toNat)
  case atStart => exact ⟨0, 0, rfl, by omega, rfl, rfl⟩
  case round =>
    obtain ⟨j, q, rfl, hj, rfl, rfl⟩ := hrel
    rcases Nat.lt_or_ge j free.length with hlt | hge
    · have hsk : scanK nodes free j < free.length := by
        rcases Nat.eq_zero_or_pos j with h1 | h1
        · subst h1; simpa [scanK] using h0
        · have := scanK_lt nodes free j h1; omega
      have y1 := Hcf.out j hlt
      have y2 := Hcf.out _ hsk
      have z1 := Hcn.out _ (Hfr.out j hlt)
      have z2 := Hcn.out _ (Hfr.out _ hsk)
      have l1 := Hfr.out j hlt
      have l2 := Hfr.out _ hsk
      have hst : Hid (scanK nodes free (j + 1) = if wt nodes (free.getD j 0) < wt nodes (free.getD (scanK nodes free j) 0) then j else scanK nodes free j) := Lib.hid rfl
      generalize free.getD j 0 = fi at *
      generalize scanK nodes free j = sk at *
      generalize free.getD sk 0 = fk at *
      generalize wt nodes fi = wi at *
      generalize wt nodes fk = wk at *
      have hwj : IntKind.i64.wrap ((j : Int) + 1) = (j : Int) + 1 := by rw [IntKind.wrap_i64]; omega
      by_cases hlt2 : wi < wk
      · have e := hst.out
        rw [if_pos hlt2] at e
        have He := Lib.hid e
        clear e
        go_wp2
        go_quiet (fail)
        go_wp2
        exact ⟨⟨j + 1, _, by simp, by omega, by rw [He.out], rfl⟩, by simp [intOf]; omega⟩
      · have e := hst.out
        rw [if_neg hlt2] at e
        have He := Lib.hid e
        clear e
        go_wp2
        go_quiet (fail)
        go_wp2
        exact ⟨⟨j + 1, _, by simp, by omega, by rw [He.out], rfl⟩, by simp [intOf]; omega⟩
    · obtain rfl : j = free.length := by omega
      rw [Hsk.out]
      have y2 := Y0.out
      have hd := Hdel.out (w.drewN q) Hof.out
      have f1 : w.frozen? ⟨bf, 0, none⟩ = false := HF.out.free 0
      have hwk : IntKind.i64.wrap ((k : Int) + 1) = (k : Int) + 1 := by rw [IntKind.wrap_i64]; omega
      have Hd := Lib.hid hd
      have HT : Hid (Blk (w.drewN q) bf 140 #[.slice (some ⟨gf, 0, none⟩) free.length cf]) := Lib.hid (HF.out.drewN q)
      clear hd
      go_wp2_with fail
      refine Hd.out.mono ?_
      rintro e w1 ⟨rfl, hown1, hk1⟩
      have hne : bf ≠ gf := fun e => own_ne_blk Hof.out HF.out (by decide) (by rw [e]; rfl)
      have hT1 := HT.out.keep hk1 (by simpa using hne)
      have c1 : w1.cell? ⟨bf, 0, none⟩ = some (.slice (some ⟨gf, 0, none⟩) free.length cf) := hT1.cell 0
      have fz : w1.frozen? ⟨bf, 0, none⟩ = false := hT1.free 0
      have HT1 := Lib.hid hT1
      have Hown1 := Lib.hid hown1
      have Hk1 := Lib.hid hk1
      have Hne := Lib.hid hne
      clear hT1 hown1 hk1 hne y2 f1 cF cL
      go_wp2
      go_ret
      have hks : Keep [bf] w1 (w1.setCell ⟨bf, 0, none⟩ (.slice (some ⟨gf, 0, none⟩) nn cf)) := (Keep.refl [bf] w1).setCell (.inl (by simp)) _
      refine ⟨rfl, HT1.out.set_ 0 _, ownsRow_keep (Her.out ▸ Hown1.out) hks (by intro i hi; simp [Value.ownBlock] at hi; subst hi; simpa using fun e => Hne.out e.symm), ?_⟩
      exact ((Keep.refl [] w).drewN q |>.mono (by simp)).trans ((Hk1.out.mono (by simp)).trans (hks.mono (by simp)))
end Go.Proofs.YtdnaahbhfjclpaaGreatDoor

namespace Go.Proofs.YtdnaahbhfjclpaaGreatDoor
open Go.RowKit Go.Sal Go.Huf
theorem own_slice {base n size : Nat} {e : TypeId} {v : Value} {xs : List Value} {w : World} (h : w.ownsRow base e size v n xs) : ∃ A c, v = .slice A n c ∧ n ≤ c ∧ c ≤ 9223372036854775807 := by
  rcases h.2 with ⟨rfl, rfl⟩ | ⟨g, cap, cur, rfl, _, _, h1, h2, _⟩
  · exact ⟨_, _, rfl, by omega, by omega⟩
  · exact ⟨_, _, rfl, h1, by unfold maxLen at h2; omega⟩
theorem own_ne_own {b b' n n' size size' : Nat} {e e' : TypeId} {v v' : Value} {xs xs' : List Value} {w : World} (h : w.ownsRow b e size v n xs) (h' : w.ownsRow b' e' size' v' n' xs') (hne : e ≠ e') {g : Nat} (hg : v.ownBlock = some g) : v'.ownBlock ≠ some g := by
  intro hg'
  rcases h.2 with ⟨rfl, _⟩ | ⟨g1, cap, cur, rfl, _, hh, _⟩
  · simp [Value.ownBlock] at hg
  · rcases h'.2 with ⟨rfl, _⟩ | ⟨g2, cap', cur', rfl, _, hh', _⟩
    · simp [Value.ownBlock] at hg'
    · simp [Value.ownBlock] at hg hg'
      subst hg
      subst hg'
      rw [hh] at hh'
      injection hh' with hh'
      injection hh' with _ hh'
      exact hne hh'
theorem own_le {w : World} {base base' size n : Nat} {e : TypeId} {v : Value} {xs : List Value} (h : w.ownsRow base e size v n xs) (hb : base' ≤ base) : w.ownsRow base' e size v n xs := by
  refine ⟨h.1, ?_⟩
  rcases h.2 with h | ⟨g, cap, cur, h1, h2, h3⟩
  · exact .inl h
  · exact .inr ⟨g, cap, cur, h1, by omega, h3⟩
def ISrc (w : World) (A : Option Addr) (cs : List Int) : Prop := ∀ i (h : i < cs.length), ∃ g o, A = some ⟨g, o, none⟩ ∧ g < w.heap.size ∧ w.cell? ⟨g, o + i, none⟩ = some (.int .i64 cs[i])
theorem ISrc.keep {w w' : World} {A : Option Addr} {cs : List Int} {F : List Nat} (h : ISrc w A cs) (k : Keep F w w') (hF : ∀ a, A = some a → a.block ∉ F) : ISrc w' A cs := fun i hi => by
  obtain ⟨g, o, rfl, h1, h2⟩ := h i hi
  exact ⟨g, o, rfl, Nat.lt_of_lt_of_le h1 k.size, (k.cell (p := ⟨g, o + i, none⟩) h1 (hF ⟨g, o, none⟩ rfl)).trans h2⟩
theorem nodes0_take {cs : List Int} {i : Nat} (h : i < cs.length) : nodes0 (cs.take (i + 1)) = nodes0 (cs.take i) ++ (if 0 < cs[i] then [(cs[i], -1)] else []) := by
  rw [List.take_succ_eq_append_getElem h]
  unfold nodes0
  rw [List.filter_append, List.map_append]
  congr 1
  by_cases hp : 0 < cs[i] <;> simp [hp]
theorem nodes0_len (cs : List Int) : (nodes0 cs).length ≤ cs.length := by
  unfold nodes0
  rw [List.length_map]
  exact List.length_filter_le _ _
theorem nd_set {w : World} {base g n cap i : Nat} {l : List (Int × Int)} {t : Int} (h : w.ownsRow base 224 2 (.slice (some ⟨g, 0, none⟩) n cap) n (l.flatMap ncells)) (hi : i < l.length) (hn : n = l.length) :
    (w.setCell ⟨g, i * 2 + 1, none⟩ (.int .i64 t)).ownsRow base 224 2 (.slice (some ⟨g, 0, none⟩) n cap) n ((link l i t).flatMap ncells) := by
  have h1 := ownsRow_set h (i * 2 + 1) (by omega) (.int .i64 t)
  have e : l.getD i (0, -1) = l[i] := by simp [List.getD, hi]
  have s1 : (l.flatMap ncells).set (i * 2 + 1) (.int .i64 t) = (l.set i (wt l i, t)).flatMap ncells :=
    rf_set ncells_len l i 1 hi (by omega) _ _ (by simp [ncells, wt, List.getD, hi])
  rw [s1] at h1
  exact h1
def NB (bl : Nat) (base : Nat) (AL : Option Addr) (cL : Nat) (l : List (Int × Int)) (w : World) : Prop :=
  Blk w bl 221 #[.slice AL l.length cL] ∧ w.ownsRow base 224 2 (.slice AL l.length cL) l.length (l.flatMap ncells)
def FB (bf : Nat) (base : Nat) (AF : Option Addr) (cF : Nat) (f : List Nat) (w : World) : Prop :=
  Blk w bf 140 #[.slice AF f.length cF] ∧ w.ownsRow base 3 1 (.slice AF f.length cF) f.length (inN f)
theorem NB.keep {bl base cL : Nat} {AL : Option Addr} {l : List (Int × Int)} {w w' : World} (h : NB bl base AL cL l w) (k : Keep [] w w') : NB bl base AL cL l w' := ⟨h.1.keep k (by simp), ownsRow_keep h.2 k (by simp)⟩
theorem FB.keep {bf base cF : Nat} {AF : Option Addr} {f : List Nat} {w w' : World} (h : FB bf base AF cF f w) (k : Keep [] w w') : FB bf base AF cF f w' := ⟨h.1.keep k (by simp), ownsRow_keep h.2 k (by simp)⟩
set_option maxRecDepth 20000 in
theorem free_append {base c : Nat} {A : Option Addr} {f : List Nat} {w : World} (h : w.ownsRow base 3 1 (.slice A f.length c) f.length (inN f)) (x : Nat) (hn : f.length ≤ 100000) (hB : base ≤ w.heap.size) :
    ∃ A' c' w', (Builtin.append_ #[140, 140] 140 #[.slice A f.length c, .slice (some ⟨w.heap.size, 0, none⟩) 1 1]).run Tryz.prog (w.alloc (.cells #[.int .i64 (x : Int)] 3)) = .ok (.slice A' (f ++ [x]).length c') w' ∧
      w'.ownsRow base 3 1 (.slice A' (f ++ [x]).length c') (f ++ [x]).length (inN (f ++ [x])) ∧ Keep (Value.slice A f.length c).ownBlock.toList w w' ∧ (A' = A ∨ ∃ g, A' = some ⟨g, 0, none⟩ ∧ w.heap.size < g) := by
  have hka : Keep [] w (w.alloc (.cells #[.int .i64 (x : Int)] 3)) := (Keep.refl [] w).alloc _
  obtain ⟨v', w', hrun, hown, hg, hat⟩ := run_append_src (P := Tryz.prog) (w.alloc (.cells #[.int .i64 (x : Int)] 3)) 140 140 3 (.int .i64 0) 1 8 base Tryz.underlying140 intinfo rfl (by omega) (.slice A f.length c) f.length (inN f) (ownsRow_keep h hka (by simp))
    (some ⟨w.heap.size, 0, none⟩) 1 1 [.int .i64 (x : Int)] (src_new w 3 1 [.int .i64 (x : Int)] rfl) (by simp [Value.oneCell']) (by unfold maxLen; omega) (by omega) (by simp; omega)
  obtain ⟨A', c', rfl, _⟩ := own_slice hown
  have el : f.length + 1 = (f ++ [x]).length := by simp
  rw [el] at hrun hown hat
  refine ⟨A', c', w', hrun, by simpa [inN] using hown, (hka.mono (by simp)).grown hg (fun k hk => .inl (by simp [hk])), ?_⟩
  obtain ⟨g', hg1, _⟩ := own_some hown (by simp)
  subst hg1
  rcases hat with hat | hat
  · left
    cases A with
    | none => simp [Value.ownBlock] at hat
    | some a =>
      have hs := h.2
      rcases hs with ⟨hs, _⟩ | ⟨g2, cap, cur, hs, _⟩
      · cases hs
      · injection hs with hs1 _ _
        injection hs1 with hs1
        subst hs1
        simp [Value.ownBlock] at hat
        rw [hat]
  · right
    simp [Value.ownBlock] at hat
    exact ⟨g', rfl, by omega⟩
theorem node_append {base c : Nat} {A : Option Addr} {l : List (Int × Int)} {w : World} (h : w.ownsRow base 224 2 (.slice A l.length c) l.length (l.flatMap ncells)) (x : Int × Int) (hn : l.length ≤ 100000) (hB : base ≤ w.heap.size) :
    ∃ A' c' w', (Builtin.append_ #[221, 221] 221 #[.slice A l.length c, .slice (some ⟨w.heap.size, 0, none⟩) 1 1]).run Tryz.prog (w.alloc (.cells #[.int .i64 x.1, .int .i64 x.2] 224)) = .ok (.slice A' (l ++ [x]).length c') w' ∧
      w'.ownsRow base 224 2 (.slice A' (l ++ [x]).length c') (l ++ [x]).length ((l ++ [x]).flatMap ncells) ∧ Keep (Value.slice A l.length c).ownBlock.toList w w' := by
  have hka : Keep [] w (w.alloc (.cells #[.int .i64 x.1, .int .i64 x.2] 224)) := (Keep.refl [] w).alloc _
  obtain ⟨v', w', hrun, hown, hg, hat⟩ := run_append_src (P := Tryz.prog) (w.alloc (.cells #[.int .i64 x.1, .int .i64 x.2] 224)) 221 221 224 _ 2 16 base Tryz.underlying221 ndinfo rfl (by omega) (.slice A l.length c) l.length (l.flatMap ncells) (ownsRow_keep h hka (by simp))
    (some ⟨w.heap.size, 0, none⟩) 1 1 (ncells x) (src_new w 224 2 (ncells x) rfl) (by simp [Value.oneCell', ncells]) (by unfold maxLen; omega) (by omega) (by simp; omega)
  obtain ⟨A', c', rfl, _⟩ := own_slice hown
  have el : l.length + 1 = (l ++ [x]).length := by simp
  rw [el] at hrun hown
  exact ⟨A', c', w', hrun, by simpa using hown, (hka.mono (by simp)).grown hg (fun k hk => .inl (by simp [hk]))⟩
end Go.Proofs.YtdnaahbhfjclpaaGreatDoor

