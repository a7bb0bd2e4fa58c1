/- truths. -/
import Derived.Test.YtopfbbnpbobhaaaDoorT2
set_option linter.unusedVariables false
set_option linter.unusedSimpArgs false
namespace Go.Proofs.YtopfbbnpbobhaaaDoor
open Go.RowKit Go.Sal

def tru1 (t : Bool) : UInt8 := if t then 43 else 45
theorem truS_eq (l : List Bool) (h : l ≠ []) : truS l = l.map tru1 := by unfold truS; rw [if_neg h]; rfl
set_option maxRecDepth 20000 in
set_option maxHeartbeats 4000000 in
theorem truths_any (l : List Bool) (A : Option Addr) (c : Nat) (w : World) (h : RD encT w A l) (hl : l.length ≤ 4000000) :
    Calls Tryd.prog 62 #[.slice A l.length c] w fun e w' => e = .returned (.string ⟨(truS l).toArray⟩) ∧ Below w.heap.size w w' := by
  by_cases hnil : l = []
  · subst hnil
    clear h hl
    go_enter Tryd.func62, Tryd.ntmps62
    go_wp2
    go_ret
    exact ⟨rfl, Below.refl _ _⟩
  · have hp : 0 < l.length := List.length_pos_iff.2 hnil
    have hb : ((l.length : Int) == 0) = false := by rw [beq_eq_false_iff_ne]; omega
    have hb2 : ¬ (l.length : Int) = 0 := by omega
    have hb3 : (l.length == 0) = false := by rw [beq_eq_false_iff_ne]; omega
    obtain ⟨g, o, rfl, hg, e1⟩ := h hnil
    have E1 := Lib.hid e1
    have Hg := Lib.hid hg
    have HT := Lib.hid (truS_eq l hnil)
    have hnew : Hid (Lib.IsBuilderF 57 5 w.heap.size w.heap.size (Lib.byteCells ((l.take 0).map tru1)) (w.alloc (.cells #[.pointer none, .slice none 0 0] 57))) :=
      Lib.hid (.inl ⟨Nat.le_refl _, .slice none 0 0, World.alloc_heap_new w _, ⟨rfl, .inl ⟨rfl, rfl⟩⟩, by simp [Value.ownBlock]⟩)
    have hbl0 : Hid (Below w.heap.size w (w.alloc (.cells #[.pointer none, .slice none 0 0] 57))) := Lib.hid ((Below.refl _ w).alloc (Nat.le_refl _) _)
    clear e1 hg hnil h
    go_enter Tryd.func62, Tryd.ntmps62
    go_wp2
    go_loopw [11] (fun u wr => ∃ i : Nat, u = .int .i64 i ∧ i ≤ l.length ∧ Hid (Lib.IsBuilderF 57 5 w.heap.size w.heap.size (Lib.byteCells ((l.take i).map tru1)) wr) ∧ Hid (Below w.heap.size w wr)) (fun u _ => l.length - (intOf u).toNat)
    case atStart => exact ⟨0, rfl, by omega, hnew, hbl0⟩
    case round =>
      obtain ⟨i, rfl, hi, hB, hW⟩ := hrel
      have hi' : (i : Int) ≤ 4000000 := by omega
      rcases Nat.lt_or_ge i l.length with hlt | hge
      · have hil : (i : Int) < (l.length : Int) := by omega
        have x1 := (hW.out.cell (p := ⟨g, o + i, none⟩) Hg.out).trans (E1.out i hlt)
        have hst : Hid (Lib.byteCells ((l.take (i + 1)).map tru1) = Lib.byteCells ((l.take i).map tru1) ++ [.int .u8 ((tru1 l[i]).toNat : Int)]) := Lib.hid (by
          rw [List.take_succ_eq_append_getElem hlt]
          simp only [Lib.byteCells, List.map_append, List.map_cons, List.map_nil])
        have hbl : (Lib.byteCells ((l.take i).map tru1)).length + 1 ≤ 140737488355328 := by rw [Lib.byteCells_length]; simp; omega
        have Hbl := Lib.hid hbl
        unfold encT at x1
        generalize l[i] = t at *
        clear hbl
        have hwi : IntKind.i64.wrap ((i : Int) + 1) = (i : Int) + 1 := by rw [IntKind.wrap_i64]; omega
        cases t with
        | true =>
          go_wp2_with (go_at_call 74; refine (Tryd.Builder_WriteByte_k w.heap.size w.heap.size _ 43 _ hB.out Hbl.out hW.out.size).mono ?_; rintro e w3 ⟨rfl, hb3, hl3, ho3⟩)
          go_roundw
          case rel => exact ⟨i + 1, by simp, by omega, Lib.hid (by rw [hst.out]; exact .inr hb3), Lib.hid (hW.out.trans hl3)⟩
          case measure => simp [intOf]; omega
        | false =>
          go_wp2_with (go_at_call 74; refine (Tryd.Builder_WriteByte_k w.heap.size w.heap.size _ 45 _ hB.out Hbl.out hW.out.size).mono ?_; rintro e w3 ⟨rfl, hb3, hl3, ho3⟩)
          go_roundw
          case rel => exact ⟨i + 1, by simp, by omega, Lib.hid (by rw [hst.out]; exact .inr hb3), Lib.hid (hW.out.trans hl3)⟩
          case measure => simp [intOf]; omega
      · obtain rfl : i = l.length := by omega
        have hil : ¬ (l.length : Int) < (l.length : Int) := by omega
        have hB2 := hB.out
        rw [List.take_length, ← HT.out] at hB2
        have HB := Lib.hid hB2
        clear hB hB2
        go_wp2_with (go_at_call 25; refine (Tryd.Builder_String_any_k w.heap.size w.heap.size _ _ HB.out hW.out.size).mono ?_; rintro e w2 ⟨rfl, hB2, hbl2, hk2⟩)
        go_ret
        exact ⟨rfl, hW.out.trans hbl2⟩
end Go.Proofs.YtopfbbnpbobhaaaDoor
