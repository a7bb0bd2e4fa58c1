/- Print's add. -/
import Derived.Test.YtopfbbnpbobhaaaDoorU12
set_option linter.unusedVariables false
set_option linter.unusedSimpArgs false
namespace Go.Proofs.YtopfbbnpbobhaaaDoor
open Go.RowKit Go.Sal

/-- what Print keeps: its builder, its flag, its conf -/
structure PS (B b lb : Nat) (cs : Array Value) (out : List UInt8) (W : World) : Prop where
  bld : Lib.IsBuilderF 57 5 B b (Lib.byteCells out) W
  flag : Blk W lb 4 #[.bool false]
  box : Blk W B 40 cs
  size : B ≤ W.heap.size
theorem PS.keep {B b lb : Nat} {cs : Array Value} {out : List UInt8} {W W' : World} (h : PS B b lb cs out W) (k : Keep [] W W') : PS B b lb cs out W' :=
  ⟨bld_keep h.bld k, h.flag.keep k List.not_mem_nil, h.box.keep k List.not_mem_nil, Nat.le_trans h.size k.size⟩
set_option maxRecDepth 20000 in
set_option maxHeartbeats 4000000 in
theorem padd_any (B b lb : Nat) (cs : Array Value) (out s : List UInt8) (w : World) (h : PS B b lb cs out w) (hb : b ≠ lb) (hb2 : b ≠ B) (hl2 : lb ≠ B) (hBl : B ≤ lb) (hlen : out.length + s.length ≤ 10000000) :
    Calls Tryd.prog 30 #[.string ⟨s.toArray⟩, .pointer (some ⟨lb, 0, none⟩), .pointer (some ⟨b, 0, none⟩)] w fun e w' => (∃ v, e = .returned v) ∧ PS B b lb cs (out ++ (s ++ [10])) w' ∧ Below B w w' := by
  have c0 : w.cell? ⟨lb, 0, none⟩ = some (.bool false) := h.flag.cell 0
  have cf : w.frozen? ⟨lb, 0, none⟩ = false := h.flag.free 0
  have hLen := Lib.hid (Tryd.Builder_Len_f B b _ w h.bld)
  rw [Lib.byteCells_length] at hLen
  obtain ⟨w2, hw2⟩ : ∃ w2, w.setCell ⟨lb, 0, none⟩ (.bool false) = w2 := ⟨_, rfl⟩
  have hbx : Boxed w lb 4 (.bool false) := h.flag
  have hP2 : PS B b lb cs out w2 := by
    rw [← hw2]
    exact ⟨bld_set h.bld hbx (by decide) (fun e => hb e.symm) _, h.flag.set_ 0 (.bool false), h.box.far (p := ⟨lb, 0, none⟩) (fun e => hl2 e.symm) _, by simpa using h.size⟩
  have hB2 : Below B w w2 := by rw [← hw2]; exact (Below.refl B w).setCell (p := ⟨lb, 0, none⟩) hBl _
  have HP2 := Lib.hid hP2
  have HB2 := Lib.hid hB2
  have Hw2 := Lib.hid hw2
  have hwi : IntKind.i64.wrap ((16777216 : Int) - (out.length : Int)) = (16777216 : Int) - (out.length : Int) := by rw [IntKind.wrap_i64]; omega
  have hcm : ¬ ((16777216 : Int) - (out.length : Int) ≤ (s.length : Int)) := by omega
  have hcm2 : decide ((16777216 : Int) - (out.length : Int) ≤ (s.length : Int)) = false := decide_eq_false hcm
  have hc2 : w2.cell? ⟨lb, 0, none⟩ = some (.bool false) := hP2.flag.cell 0
  obtain ⟨s2, hs2⟩ : ∃ s2, s2 = s ++ [10] := ⟨_, rfl⟩
  have q1 : ∀ W : World, (Op.stringOp .add ⟨s.toArray⟩ ⟨#[10]⟩).run Tryd.prog W = .ok (.string ⟨s2.toArray⟩) W := add_lists (b := [10]) hs2 (by rw [hs2]; simp; omega)
  have hsl : s2.length = s.length + 1 := by rw [hs2]; simp
  have hWr := Lib.hid (Tryd.Builder_WriteString_k B b _ ⟨s2.toArray⟩ w2 hP2.bld (by rw [Lib.byteCells_length]; simp only [ByteArray.size, List.size_toArray]; omega) hP2.size)
  have Hs2 := Lib.hid hs2
  have Hne := Lib.hid (And.intro hb (And.intro hb2 hl2))
  clear h hbx hP2 hB2 hw2 hs2 hsl hb hb2 hl2
  go_enter Tryd.func30, Tryd.ntmps30
  go_upto_region 1 with (go_at_call 31; refine hLen.out.mono ?_; rintro e w1 ⟨rfl, rfl⟩)
  rw [Hw2.out]
  go_wp2_with (go_at_call 21; refine hWr.out.mono ?_; rintro e w3 ⟨rfl, hb3, hl3, ho3⟩)
  go_end0
  refine ⟨⟨_, rfl⟩, ⟨.inr ?_, ?_, ?_, Nat.le_trans HP2.out.size hl3.size⟩, HB2.out.trans hl3⟩
  · rw [strCells_list, byteCells_app] at hb3
    rw [← Hs2.out]
    exact hb3
  · exact ho3 _ _ HP2.out.flag (by have := Hne.out.1; simp; omega) (by rintro c fz e; cases e)
  · exact ho3 _ _ HP2.out.box (by have := Hne.out.2.1; simp; omega) (by rintro c fz e; cases e)
end Go.Proofs.YtopfbbnpbobhaaaDoor
