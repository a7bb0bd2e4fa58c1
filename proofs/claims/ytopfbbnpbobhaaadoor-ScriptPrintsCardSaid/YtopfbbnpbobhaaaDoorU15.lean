/- The law ScriptPrints. -/
import Derived.Test.YtopfbbnpbobhaaaDoorU14
import Derived.Test.YtopfbbnpbobhaaaDoorT8
set_option linter.unusedVariables false
set_option linter.unusedSimpArgs false
namespace Go.Proofs.YtopfbbnpbobhaaaDoor
open Go.RowKit Go.Sal

theorem rowsOf_at : ∀ (l : List DR) (j : Nat) (h : j < l.length) (k : Nat), k < 7 → (rowsOf l)[j * 7 + k]? = ((l[j]).av)[k]? := by
  intro l
  induction l with
  | nil => intro j h; simp at h
  | cons r t ih =>
    intro j h k hk
    have hr : r.av.toList.length = 7 := rfl
    have e : rowsOf (r :: t) = r.av.toList ++ rowsOf t := by simp [rowsOf]
    rw [e]
    cases j with
    | zero =>
      rw [List.getElem?_append_left (by omega)]
      simp
    | succ j =>
      rw [List.getElem?_append_right (by omega), hr, show (j + 1) * 7 + k - 7 = j * 7 + k by omega]
      exact ih j (by simpa using h) k hk
theorem rs_own {base : Nat} {A : Option Addr} {c : Nat} {l : List DR} {w : World} (h : w.ownsRow base 72 7 (.slice A l.length c) l.length (rowsOf l)) : RS w A l := fun hn => by
  have hp : 0 < l.length := List.length_pos_iff.2 hn
  rcases h.2 with ⟨h0, h1⟩ | ⟨g, cap, cur, hv, _, hg, h1, _, h3, h4⟩
  · omega
  · injection hv with e1 e2 e3
    subst e1
    refine ⟨g, 0, rfl, lt_of_some hg, fun j hj k hk => ?_⟩
    rw [Nat.zero_add, cell_of_row w g _ cur 72 (0, 0) hg, ← rowsOf_at l j hj k hk, ← h4, List.getElem?_take_of_lt (by omega)]
    simp
theorem few_small (rs : List DR) (r : DR) (h : r ∈ fewR rs 25) : smallR r := by
  unfold fewR at h
  obtain ⟨x, _, rfl⟩ := List.mem_map.1 h
  refine ⟨?_, ?_, ?_⟩ <;> simp [cutR, cutD] <;> omega
theorem few_ok {w : World} (rs : List DR) (hok : ∀ r ∈ rs, r.ok w) (r : DR) (h : r ∈ fewR rs 25) : r.ok w := by
  unfold fewR at h
  obtain ⟨x, hx, rfl⟩ := List.mem_map.1 h
  exact cutR_ok (hok x (List.mem_of_mem_take hx))
theorem printV_two (cf : Cf) (rs : List DR) : ∃ s e, printV cf rs = .tuple #[.string s, .int .i64 e] := by
  unfold printV
  split <;> exact ⟨_, _, rfl⟩
set_option maxRecDepth 200000 in
set_option maxHeartbeats 8000000 in
theorem law4_any (cf : Cf) (rs : List DR) (A : Option Addr) (c : Nat) (w : World) (hS : RS w A rs) (hok : ∀ r ∈ rs, r.ok w) (hx : ∀ x ∈ nums cf, -9223372036854775808 ≤ x ∧ x ≤ 9223372036854775807) (hkl : cf.key.length ≤ 9223372036854775807)
    (htab : Lib.TabIs Tryd.prog w "internal/strconv.uint64pow10" .u64 Lib.pow10Tab) :
    Calls Tryd.prog 4 #[.agg (cfA cf), .slice A rs.length c] w fun e w' => e = .returned (.bool true) ∧ Below w.heap.size w w' := by
  have HT := Lib.hid (Lib.tabBelow_of_tabIs htab)
  obtain ⟨z0, z1, ky, z2, z3, z4, z5, z6, z7⟩ := cf
  obtain ⟨k2, hk2⟩ : ∃ k2, k2 = ky.take 300 := ⟨_, rfl⟩
  have hk2l : k2.length ≤ 300 := by rw [hk2, List.length_take]; omega
  obtain ⟨w1, hw1⟩ : ∃ w1, w.alloc (.cells #[.int .i64 z0, .int .i64 z1, .string ⟨ky.toArray⟩, .int .i64 z2, .int .i64 z3, .int .i64 z4, .int .i64 z5, .int .i64 z6, .int .i64 z7] 40) = w1 := ⟨_, rfl⟩
  have hD : Hid (Blk w1 w.heap.size 40 #[.int .i64 z0, .int .i64 z1, .string ⟨ky.toArray⟩, .int .i64 z2, .int .i64 z3, .int .i64 z4, .int .i64 z5, .int .i64 z6, .int .i64 z7]) := Lib.hid (by rw [← hw1]; exact Blk.new _ _ _)
  have HB1 : Hid (Below w.heap.size w w1) := Lib.hid (by rw [← hw1]; exact (Below.refl _ w).alloc (Nat.le_refl _) _)
  have Hfew := Lib.hid (few_any rs A c w1 (RS.below hS HB1.out) (fun r hr => (hok r hr).below HB1.out))
  have HOK : Hid (∀ W, Below w.heap.size w W → ∀ r ∈ fewR rs 25, r.ok W) := Lib.hid (fun W hW r hr => few_ok rs (fun x hx => (hok x hx).below hW) r hr)
  have HL : Hid ((fewR rs 25).length ≤ 25) := Lib.hid (by simp [fewR]; omega)
  have HX : Hid (∀ x ∈ nums ⟨z0, z1, k2, z2, z3, z4, z5, z6, z7⟩, -9223372036854775808 ≤ x ∧ x ≤ 9223372036854775807) := Lib.hid hx
  obtain ⟨s, er, hpv⟩ := printV_two ⟨z0, z1, k2, z2, z3, z4, z5, z6, z7⟩ (fewR rs 25)
  have HPR : Hid (∀ W A' c', Below w.heap.size w W → RS W A' (fewR rs 25) → Calls Tryd.prog 13 #[.agg #[.int .i64 z0, .int .i64 z1, .string ⟨k2.toArray⟩, .int .i64 z2, .int .i64 z3, .int .i64 z4, .int .i64 z5, .int .i64 z6, .int .i64 z7], .slice A' (fewR rs 25).length c'] W fun e w' => e = .returned (.tuple #[.string s, .int .i64 er]) ∧ Below W.heap.size W w') := Lib.hid (fun W A' c' hW hR => by
    have := print_any ⟨z0, z1, k2, z2, z3, z4, z5, z6, z7⟩ (fewR rs 25) A' c' W hR (HOK.out W hW) (few_small rs) HL.out HX.out hk2l (HT.out W hW)
    rw [hpv] at this
    exact this)
  have HRP : Hid (∀ W A' c', Below w.heap.size w W → RS W A' (fewR rs 25) → Calls Tryd.prog 14 #[.agg #[.int .i64 z0, .int .i64 z1, .string ⟨k2.toArray⟩, .int .i64 z2, .int .i64 z3, .int .i64 z4, .int .i64 z5, .int .i64 z6, .int .i64 z7], .slice A' (fewR rs 25).length c'] W fun e w' => e = .returned (.tuple #[.string s, .int .i64 er]) ∧ Below W.heap.size W w') := Lib.hid (fun W A' c' hW hR => by
    have := rprint_any ⟨z0, z1, k2, z2, z3, z4, z5, z6, z7⟩ (fewR rs 25) A' c' W hR (HOK.out W hW) (few_small rs) HL.out HX.out hk2l
    rw [hpv] at this
    exact this)
  have HAL : Hid (∀ W, Below w.heap.size w W → Calls Tryd.prog 11 #[] W fun e w' => e = .returned (.bool true) ∧ Below W.heap.size W w') := Lib.hid (fun W hW => alive_any W (HT.out W hW))
  have hc2 : ∀ W, Hid (Calls Tryd.prog 6 #[.string ⟨ky.toArray⟩, .int .i64 300] W fun e w' => e = .returned (.string ⟨k2.toArray⟩) ∧ W = w') := fun W => Lib.hid (by rw [hk2]; exact cutText_any ky 300 W hkl)
  have Hw1 := Lib.hid hw1
  generalize hfl : (fewR rs 25).length = fl at *
  have Hfl := Lib.hid hfl
  clear hS hok hx hkl htab hpv hk2 hk2l hw1 hfl
  unfold cfA
  dsimp only
  go_enter Tryd.func4, Tryd.ntmps4
  go_upto_region 1 with (fail)
  rw [Hw1.out]
  go_wp2_with (fail)
  refine Hfew.out.mono ?_
  rintro e w2 ⟨A2, c2, rfl, hO2, hb2⟩
  have hR2 : Hid (RS w2 A2 (fewR rs 25)) := Lib.hid (rs_own (by rw [Hfl.out]; exact hO2))
  have hD2 := hD.out.keep (Keep.of_below (F := []) hb2) List.not_mem_nil
  have hB2 := HB1.out.trans (hb2.mono HB1.out.size)
  have e2 : w2.cell? ⟨w.heap.size, 2, none⟩ = some (.string ⟨ky.toArray⟩) := hD2.cell 2
  have ef : ∀ i, w2.frozen? ⟨w.heap.size, i, none⟩ = false := hD2.free
  obtain ⟨w3, hw3⟩ : ∃ w3, w2.setCell ⟨w.heap.size, 2, none⟩ (.string ⟨k2.toArray⟩) = w3 := ⟨_, rfl⟩
  have hD3 : Blk w3 w.heap.size 40 #[.int .i64 z0, .int .i64 z1, .string ⟨k2.toArray⟩, .int .i64 z2, .int .i64 z3, .int .i64 z4, .int .i64 z5, .int .i64 z6, .int .i64 z7] := by rw [← hw3]; exact hD2.set_ 2 _
  have hB3 : Below w.heap.size w w3 := by rw [← hw3]; exact hB2.setCell (p := ⟨w.heap.size, 2, none⟩) (Nat.le_refl _) _
  have hR3 : Hid (RS w3 A2 (fewR rs 25)) := Lib.hid (fun hn => by
    obtain ⟨g, o, h1, h2, h3⟩ := hR2.out hn
    have hgne : g ≠ w.heap.size := fun e => by
      have hpos : 0 < (fewR rs 25).length := List.length_pos_iff.2 hn
      rw [Hfl.out] at hpos
      obtain ⟨g', hA, _, hbg⟩ := own_some hO2 hpos
      rw [h1] at hA
      cases hA
      have := hD.out.lt
      omega
    rw [← hw3]
    exact ⟨g, o, h1, by simpa [World.setCell] using h2, fun j hj k hk => (World.cell?_of_block (Below.heap_setCell w2 ⟨w.heap.size, 2, none⟩ _ g hgne)).trans (h3 j hj k hk)⟩)
  have Hw3 := Lib.hid hw3
  have HB3 := Lib.hid hB3
  have HD3 := Lib.hid hD3
  have f0 : w3.cell? ⟨w.heap.size, 0, none⟩ = some (.int .i64 z0) := hD3.cell 0
  have f1 : w3.cell? ⟨w.heap.size, 1, none⟩ = some (.int .i64 z1) := hD3.cell 1
  have f2 : w3.cell? ⟨w.heap.size, 2, none⟩ = some (.string ⟨k2.toArray⟩) := hD3.cell 2
  have f3 : w3.cell? ⟨w.heap.size, 3, none⟩ = some (.int .i64 z2) := hD3.cell 3
  have f4 : w3.cell? ⟨w.heap.size, 4, none⟩ = some (.int .i64 z3) := hD3.cell 4
  have f5 : w3.cell? ⟨w.heap.size, 5, none⟩ = some (.int .i64 z4) := hD3.cell 5
  have f6 : w3.cell? ⟨w.heap.size, 6, none⟩ = some (.int .i64 z5) := hD3.cell 6
  have f7 : w3.cell? ⟨w.heap.size, 7, none⟩ = some (.int .i64 z6) := hD3.cell 7
  have f8 : w3.cell? ⟨w.heap.size, 8, none⟩ = some (.int .i64 z7) := hD3.cell 8
  clear hO2 hb2 hD2 hB2 hw3 hB3 hD3 hR2
  go_upto_region 3 with (go_at_call 6; refine (hc2 _).out.mono ?_; rintro e wq ⟨rfl, rfl⟩)
  rw [Hw3.out]
  go_wp2_with (fail)
  refine (HPR.out w3 A2 c2 HB3.out hR3.out).mono ?_
  rintro e w5 ⟨rfl, hb5⟩
  have hD5 := HD3.out.keep (Keep.of_below (F := []) hb5) List.not_mem_nil
  have g0 : w5.cell? ⟨w.heap.size, 0, none⟩ = some (.int .i64 z0) := hD5.cell 0
  have g1 : w5.cell? ⟨w.heap.size, 1, none⟩ = some (.int .i64 z1) := hD5.cell 1
  have g2 : w5.cell? ⟨w.heap.size, 2, none⟩ = some (.string ⟨k2.toArray⟩) := hD5.cell 2
  have g3 : w5.cell? ⟨w.heap.size, 3, none⟩ = some (.int .i64 z2) := hD5.cell 3
  have g4 : w5.cell? ⟨w.heap.size, 4, none⟩ = some (.int .i64 z3) := hD5.cell 4
  have g5 : w5.cell? ⟨w.heap.size, 5, none⟩ = some (.int .i64 z4) := hD5.cell 5
  have g6 : w5.cell? ⟨w.heap.size, 6, none⟩ = some (.int .i64 z5) := hD5.cell 6
  have g7 : w5.cell? ⟨w.heap.size, 7, none⟩ = some (.int .i64 z6) := hD5.cell 7
  have g8 : w5.cell? ⟨w.heap.size, 8, none⟩ = some (.int .i64 z7) := hD5.cell 8
  have HB5 := Lib.hid (HB3.out.trans (hb5.mono HB3.out.size))
  have HR5 := Lib.hid (RS.below hR3.out hb5)
  clear hb5 hD5 f0 f1 f2 f3 f4 f5 f6 f7 f8
  go_wp2_with (fail)
  refine (HRP.out w5 A2 c2 HB5.out HR5.out).mono ?_
  rintro e w6 ⟨rfl, hb6⟩
  have HB6 := Lib.hid (HB5.out.trans (hb6.mono HB5.out.size))
  clear hb6 g0 g1 g2 g3 g4 g5 g6 g7 g8
  go_wp2_with (go_at_call 11; refine (HAL.out _ HB6.out).mono ?_; rintro e w7 ⟨rfl, hb7⟩)
  go_ret
  exact ⟨rfl, HB6.out.trans (hb7.mono HB6.out.size)⟩
end Go.Proofs.YtopfbbnpbobhaaaDoor
