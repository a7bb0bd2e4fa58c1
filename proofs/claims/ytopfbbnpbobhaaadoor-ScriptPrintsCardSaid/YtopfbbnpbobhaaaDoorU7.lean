/- The reference's head. -/
import Derived.Test.YtopfbbnpbobhaaaDoorU6
set_option linter.unusedVariables false
set_option linter.unusedSimpArgs false
namespace Go.Proofs.YtopfbbnpbobhaaaDoor
open Go.RowKit Go.Sal

/-- A world's conf, as data. -/
structure Cf where
  z0 : Int
  z1 : Int
  key : List UInt8
  z2 : Int
  z3 : Int
  z4 : Int
  z5 : Int
  z6 : Int
  z7 : Int
def nums (c : Cf) : List Int := [c.z0, c.z1, c.z2, c.z3, c.z4, c.z5, c.z6, c.z7]
def cfA (c : Cf) : Array Value := #[.int .i64 c.z0, .int .i64 c.z1, .string ⟨c.key.toArray⟩, .int .i64 c.z2, .int .i64 c.z3, .int .i64 c.z4, .int .i64 c.z5, .int .i64 c.z6, .int .i64 c.z7]
def wordS : List UInt8 := [115, 97, 108, 116, 101, 114, 110]
def headW (c : Cf) : List (List UInt8) := (nums c).map Lib.itoa ++ [hexS c.key]
def headOf (c : Cf) : List UInt8 := Lib.join (wordS :: headW c) [32]
/-- the head up to the i-th number -/
def headTo (xs : List Int) (i : Nat) : List UInt8 := wordS ++ Lib.joinTail [32] ((xs.take i).map Lib.itoa)
theorem headTo_succ (xs : List Int) (i : Nat) (h : i < xs.length) : headTo xs (i + 1) = (headTo xs i ++ [32]) ++ Lib.itoa xs[i] := by
  unfold headTo
  rw [List.map_take, List.map_take, Lib.joinTail_take_succ [32] _ i (Lib.itoa xs[i]) (by simp [h])]
  simp only [List.append_assoc]
theorem headTo_end (c : Cf) : headOf c = (headTo (nums c) 8 ++ [32]) ++ hexS c.key := by
  unfold headOf headTo headW
  rw [Lib.join_cons, List.take_of_length_le (by simp [nums])]
  simp [Lib.joinTail, List.append_assoc]
theorem headTo_len (xs : List Int) (i : Nat) (h : ∀ x ∈ xs, -9223372036854775808 ≤ x ∧ x ≤ 9223372036854775807) : (headTo xs i).length ≤ 7 + 22 * i := by
  induction i with
  | zero => simp [headTo, wordS, Lib.joinTail]
  | succ i ih =>
    rcases Nat.lt_or_ge i xs.length with hl | hg
    · rw [headTo_succ xs i hl]
      have := itoa_len xs[i] (h _ (List.getElem_mem hl))
      simp only [List.length_append, List.length_cons, List.length_nil]
      omega
    · have e : headTo xs (i + 1) = headTo xs i := by
        unfold headTo
        rw [List.take_of_length_le (by omega), List.take_of_length_le (by omega)]
      rw [e]
      omega
set_option maxRecDepth 200000 in
set_option maxHeartbeats 4000000 in
theorem rhead_any (c : Cf) (w : World) (hx : ∀ x ∈ nums c, -9223372036854775808 ≤ x ∧ x ≤ 9223372036854775807) (hkl : c.key.length ≤ 3000) :
    Calls Tryd.prog 34 #[.agg (cfA c)] w fun e w' => e = .returned (.string ⟨(headOf c).toArray⟩) ∧ Below w.heap.size w w' := by
  have HE := Lib.hid (headTo_end c)
  have HLn := Lib.hid (fun i => headTo_len (nums c) i hx)
  have HX := Lib.hid hx
  obtain ⟨z0, z1, ky, z2, z3, z4, z5, z6, z7⟩ := c
  obtain ⟨w1, hw1⟩ : ∃ w1, (w.alloc (.cells #[.int .i64 z0, .int .i64 z1, .string ⟨ky.toArray⟩, .int .i64 z2, .int .i64 z3, .int .i64 z4, .int .i64 z5, .int .i64 z6, .int .i64 z7] 40)).alloc (.cells #[.int .i64 z0, .int .i64 z1, .int .i64 z2, .int .i64 z3, .int .i64 z4, .int .i64 z5, .int .i64 z6, .int .i64 z7] 3) = w1 := ⟨_, rfl⟩
  have hD : Hid (Blk w1 w.heap.size 40 #[.int .i64 z0, .int .i64 z1, .string ⟨ky.toArray⟩, .int .i64 z2, .int .i64 z3, .int .i64 z4, .int .i64 z5, .int .i64 z6, .int .i64 z7]) := Lib.hid (by rw [← hw1]; exact (Blk.new _ _ _).alloc _)
  have hR : Blk w1 (w.heap.size + 1) 3 (((nums ⟨z0, z1, ky, z2, z3, z4, z5, z6, z7⟩).map (Value.int .i64)).toArray) := by
    rw [← hw1]
    have := Blk.new (w.alloc (.cells #[.int .i64 z0, .int .i64 z1, .string ⟨ky.toArray⟩, .int .i64 z2, .int .i64 z3, .int .i64 z4, .int .i64 z5, .int .i64 z6, .int .i64 z7] 40)) 3 #[.int .i64 z0, .int .i64 z1, .int .i64 z2, .int .i64 z3, .int .i64 z4, .int .i64 z5, .int .i64 z6, .int .i64 z7]
    rw [World.size_alloc] at this
    exact this
  have HB1 : Hid (Below w.heap.size w w1) := Lib.hid (by rw [← hw1]; exact ((Below.refl _ w).alloc (Nat.le_refl _) _).alloc (by simp) _)
  have hz : Hid (w.heap.size ≤ w1.heap.size) := Lib.hid HB1.out.size
  obtain ⟨xs, hxs⟩ : ∃ xs, nums ⟨z0, z1, ky, z2, z3, z4, z5, z6, z7⟩ = xs := ⟨_, rfl⟩
  have hl8 : xs.length = 8 := by rw [← hxs]; rfl
  rw [hxs] at hR HE HLn HX
  have HRow : Hid (∀ i (h : i < 8) wr, Keep [] w1 wr → wr.cell? ⟨w.heap.size + 1, i, none⟩ = some (.int .i64 (xs[i]'(by omega)))) := Lib.hid (fun i h wr hk => by
    rw [(hR.keep hk List.not_mem_nil).cell i]
    simp [hl8, h])
  have hdec : Hid (∀ i (h : i < 8) W, Calls Tryd.prog 53 #[.int .i64 (xs[i]'(by omega))] W fun e w' => e = .returned (.string ⟨(Lib.itoa (xs[i]'(by omega))).toArray⟩) ∧ Keep [] W w') := Lib.hid (fun i h W => decimal_any _ (HX.out _ (List.getElem_mem _)) W)
  have hnx : Hid (∀ i (h : i < 8), headTo xs (i + 1) = (headTo xs i ++ [32]) ++ Lib.itoa (xs[i]'(by omega))) := Lib.hid (fun i h => headTo_succ xs i (by omega))
  have h0 : Hid (headTo xs 0 = [115, 97, 108, 116, 101, 114, 110]) := Lib.hid (by simp [headTo, wordS, Lib.joinTail])
  have hlen : Hid (∀ i (h : i < 8), (Lib.itoa (xs[i]'(by omega))).length ≤ 21) := Lib.hid (fun i h => itoa_len _ (HX.out _ (List.getElem_mem _)))
  have Hw1 := Lib.hid hw1
  have Hkl : Hid (ky.length ≤ 3000) := Lib.hid hkl
  clear hR hx hxs HX hw1 hkl
  unfold cfA
  dsimp only at HE ⊢
  go_enter Tryd.func34, Tryd.ntmps34
  go_upto_region 2 with (fail)
  rw [Hw1.out]
  go_wp2
  go_loopw [4, 5] (fun s o wr => ∃ i : Nat, s = .string ⟨(headTo xs i).toArray⟩ ∧ o = .int .i64 i ∧ i ≤ 8 ∧ Hid (Keep [] w1 wr)) (fun s o _ => 8 - (intOf o).toNat)
  case atStart => exact ⟨0, by rw [h0.out], rfl, by omega, Lib.hid (Keep.refl _ _)⟩
  case round =>
    obtain ⟨i, rfl, rfl, hi, hk⟩ := hrel
    rcases Nat.lt_or_ge i 8 with hlt | hge
    · have hil : (i : Int) < 8 := by omega
      have hcell := HRow.out i hlt wr hk.out
      have hd := fun W => Lib.hid (hdec.out i hlt W)
      have hn := Lib.hid (hnx.out i hlt)
      have hl1 := hlen.out i hlt
      have hl2 := HLn.out i
      have hwi : IntKind.i64.wrap ((i : Int) + 1) = (i : Int) + 1 := by rw [IntKind.wrap_i64]; omega
      have Hi1 : Hid (i + 1 ≤ 8) := Lib.hid (by omega)
      have Hi2 : Hid (i ≤ 7) := Lib.hid (by omega)
      generalize xs[i]'(by omega) = x at *
      generalize Lib.itoa x = ix at *
      generalize headTo xs i = s0 at *
      obtain ⟨s1, hs1⟩ : ∃ s1, s1 = s0 ++ [32] := ⟨_, rfl⟩
      obtain ⟨s2, hs2⟩ : ∃ s2, s2 = s1 ++ ix := ⟨_, rfl⟩
      have q1 : ∀ W : World, (Op.stringOp .add ⟨s0.toArray⟩ ⟨#[32]⟩).run Tryd.prog W = .ok (.string ⟨s1.toArray⟩) W := add_lists (b := [32]) hs1 (by rw [hs1]; simp; omega)
      have q2 : ∀ W : World, (Op.stringOp .add ⟨s1.toArray⟩ ⟨ix.toArray⟩).run Tryd.prog W = .ok (.string ⟨s2.toArray⟩) W := add_lists hs2 (by rw [hs2, hs1]; simp; omega)
      have Hs2 : Hid (s2 = headTo xs (i + 1)) := Lib.hid (by rw [hn.out, hs2, hs1])
      clear hn hl1 hl2 hs1 hs2 hlt hi
      go_wp2_with (go_at_call 53; refine (hd _).out.mono ?_; rintro e w3 ⟨rfl, hk3⟩)
      go_roundw
      case rel => exact ⟨i + 1, by rw [Hs2.out], by simp, Hi1.out, Lib.hid (hk.out.trans hk3)⟩
      case measure => have := Hi2.out; simp [intOf]; omega
    · obtain rfl : i = 8 := by omega
      have e2 : wr.cell? ⟨w.heap.size, 2, none⟩ = some (.string ⟨ky.toArray⟩) := (hD.out.keep hk.out List.not_mem_nil).cell 2
      obtain ⟨cap, w4, fa, hcv, hcap, hF⟩ := conv_bytes ky wr
      have HH := Lib.hid (rhexg_any ky (some ⟨wr.heap.size, 0, none⟩) cap w4 (fun _ => ⟨_, _, rfl, lt_of_some hF.out.1, fun j hj => by rw [cell_of_row _ _ _ _ _ _ hF.out.1, Nat.zero_add]; exact hF.out.2.1 j hj⟩) hcap Hkl.out)
      have HB4 := Lib.hid (HB1.out.trans (((hk.out.belowB hz.out (by simp))).trans (hF.out.2.2.belowB (Nat.le_trans hz.out hk.out.size) (by simp))))
      have hhl := hexS_len ky (by have := Hkl.out; omega)
      have hkl3 := Hkl.out
      have hl8' := HLn.out 8
      generalize headTo xs 8 = s0 at *
      generalize hexS ky = hx at *
      obtain ⟨s1, hs1⟩ : ∃ s1, s1 = s0 ++ [32] := ⟨_, rfl⟩
      obtain ⟨s2, hs2⟩ : ∃ s2, s2 = s1 ++ hx := ⟨_, rfl⟩
      have q1 : ∀ W : World, (Op.stringOp .add ⟨s0.toArray⟩ ⟨#[32]⟩).run Tryd.prog W = .ok (.string ⟨s1.toArray⟩) W := add_lists (b := [32]) hs1 (by rw [hs1]; simp; omega)
      have q2 : ∀ W : World, (Op.stringOp .add ⟨s1.toArray⟩ ⟨hx.toArray⟩).run Tryd.prog W = .ok (.string ⟨s2.toArray⟩) W := add_lists hs2 (by rw [hs2, hs1]; simp; omega)
      have Hs2 : Hid (headOf ⟨z0, z1, ky, z2, z3, z4, z5, z6, z7⟩ = s2) := Lib.hid (by rw [HE.out, hs2, hs1])
      clear hF hhl hkl3 hl8' hs1 hs2 HE
      go_wp2_with (go_at_call 10; refine HH.out.mono ?_; rintro e w5 ⟨rfl, hb5⟩)
      go_ret
      rw [Hs2.out]
      exact ⟨rfl, HB4.out.trans (hb5.mono HB4.out.size)⟩
end Go.Proofs.YtopfbbnpbobhaaaDoor
