/- The reference's truths, path. -/
import Derived.Test.YtopfbbnpbobhaaaDoorU1
set_option linter.unusedVariables false
set_option linter.unusedSimpArgs false
namespace Go.Proofs.YtopfbbnpbobhaaaDoor
open Go.RowKit Go.Sal

set_option maxRecDepth 20000 in
set_option maxHeartbeats 4000000 in
theorem rtruths_any (l : List Bool) (A : Option Addr) (c : Nat) (w : World) (h : RD encT w A l) (hl : l.length ≤ 4000000) :
    Calls Tryd.prog 66 #[.slice A l.length c] w fun e w' => e = .returned (.string ⟨(truS l).toArray⟩) ∧ Below w.heap.size w w' := by
  by_cases hnil : l = []
  · subst hnil
    clear h hl
    go_enter Tryd.func66, Tryd.ntmps66
    go_wp2
    go_ret
    exact ⟨rfl, Below.refl _ _⟩
  · have hp : 0 < l.length := List.length_pos_iff.2 hnil
    have hb : ((l.length : Int) == 0) = false := by rw [beq_eq_false_iff_ne]; omega
    have hb2 : ¬ (l.length : Int) = 0 := by omega
    have hb3 : (l.length == 0) = false := by rw [beq_eq_false_iff_ne]; omega
    obtain ⟨g, o, rfl, hg, e1⟩ := h hnil
    have E1 := Lib.hid e1
    have Hg := Lib.hid hg
    have HT := Lib.hid (truS_eq l hnil)
    have Hnil := Lib.hid hnil
    have hOw : Hid (OwnB w.heap.size none 0 ((l.take 0).map tru1) w) := Lib.hid (OwnB.nil _ _)
    have hBw : Hid (Below w.heap.size w w) := Lib.hid (Below.refl _ _)
    clear e1 hg hnil h
    go_enter Tryd.func66, Tryd.ntmps66
    go_wp2
    go_loopw [3, 4] (fun v u wr => ∃ (A2 : Option Addr) (c2 i m : Nat), v = .slice A2 m c2 ∧ u = .int .i64 i ∧ i ≤ l.length ∧ Hid (m = ((l.take i).map tru1).length) ∧ Hid (OwnB w.heap.size A2 c2 ((l.take i).map tru1) wr) ∧ Hid (Below w.heap.size w wr)) (fun _ u _ => l.length - (intOf u).toNat)
    case atStart => exact ⟨none, 0, 0, 0, rfl, rfl, by omega, Lib.hid rfl, hOw, hBw⟩
    case round =>
      obtain ⟨A2, c2, i, m, rfl, rfl, hi, hm, hO, hW⟩ := hrel
      have hi' : (i : Int) ≤ 4000000 := by omega
      rcases Nat.lt_or_ge i l.length with hlt | hge
      · have hil : (i : Int) < (l.length : Int) := by omega
        have x1 := (hW.out.cell (p := ⟨g, o + i, none⟩) Hg.out).trans (E1.out i hlt)
        have hst : (l.take (i + 1)).map tru1 = (l.take i).map tru1 ++ [tru1 l[i]] := by rw [List.take_succ_eq_append_getElem hlt, List.map_append]; rfl
        have Hst := Lib.hid hst
        have hwi : IntKind.i64.wrap ((i : Int) + 1) = (i : Int) + 1 := by rw [IntKind.wrap_i64]; omega
        obtain ⟨A', c', w7, hap, hO7, hB7⟩ := ownPush hO.out hW.out.size (tru1 l[i]) (by simp; omega)
        rw [← hst] at hO7
        rw [← hm.out] at hap
        unfold encT at x1
        have hm2 : Hid (m + 1 = ((l.take (i + 1)).map tru1).length) := Lib.hid (by rw [Hst.out, hm.out]; simp)
        generalize l[i] = t at *
        clear hst
        cases t with
        | true =>
          have hap : (Builtin.append_ #[22, 22] 22 #[.slice A2 m c2, .slice (some ⟨wr.heap.size, 0, none⟩) 1 1]).run Tryd.prog (wr.alloc (.cells #[.int .u8 43] 5)) = .ok (.slice A' (m + 1) c') w7 := hap
          go_wp2_with (at_builtin; refine wpList_append2 (v1 := .slice A2 m c2) (v2 := .slice (some ⟨wr.heap.size, 0, none⟩) 1 1) rfl (.tmp 18) (.tmp 19) rfl rfl rfl hap ?_)
          go_roundw
          case rel => exact ⟨A', c', i + 1, m + 1, rfl, by simp, by omega, hm2, hO7, Lib.hid (hW.out.trans hB7.out)⟩
          case measure => simp [intOf]; omega
        | false =>
          have hap : (Builtin.append_ #[22, 22] 22 #[.slice A2 m c2, .slice (some ⟨wr.heap.size, 0, none⟩) 1 1]).run Tryd.prog (wr.alloc (.cells #[.int .u8 45] 5)) = .ok (.slice A' (m + 1) c') w7 := hap
          go_wp2_with (at_builtin; refine wpList_append2 (v1 := .slice A2 m c2) (v2 := .slice (some ⟨wr.heap.size, 0, none⟩) 1 1) rfl (.tmp 21) (.tmp 22) rfl rfl rfl hap ?_)
          go_roundw
          case rel => exact ⟨A', c', i + 1, m + 1, rfl, by simp, by omega, hm2, hO7, Lib.hid (hW.out.trans hB7.out)⟩
          case measure => simp [intOf]; omega
      · obtain rfl : i = l.length := by omega
        have hil : ¬ (l.length : Int) < (l.length : Int) := by omega
        have hO2 := hO.out
        have hm2 := hm.out
        rw [List.take_length, ← HT.out] at hO2 hm2
        have hcv := bytes_back A2 c2 (truS l) w.heap.size wr hO2
        rw [← hm2] at hcv
        clear hO hO2 hm hm2
        go_wp2
        go_ret
        exact ⟨rfl, hW.out⟩
set_option maxRecDepth 20000 in
set_option maxHeartbeats 4000000 in
theorem rpath_any (d : Dd) (bv kv : Value) (Ab Ak : Option Addr) (nb cb nk ck : Nat) (w : World) (hlp : d.path.length ≤ 3000) (hb : bv = .slice Ab nb cb) (hk : kv = .slice Ak nk ck) :
    Calls Tryd.prog 65 #[.agg (DvA d bv kv)] w fun e w' => e = .returned (.string ⟨(32 :: hexS d.path).toArray⟩) ∧ Below w.heap.size w w' := by
  subst hb
  subst hk
  obtain ⟨w1, hw1⟩ : ∃ w1, w.alloc (.cells (DvA d (.slice Ab nb cb) (.slice Ak nk ck)) 72) = w1 := ⟨_, rfl⟩
  have hD1 : Blk w1 w.heap.size 72 (DvA d (.slice Ab nb cb) (.slice Ak nk ck)) := by rw [← hw1]; exact Blk.new _ _ _
  have hz1 : w.heap.size ≤ w1.heap.size := by rw [← hw1]; simp
  have hB1 : Below w.heap.size w w1 := by rw [← hw1]; exact (Below.refl _ w).alloc (Nat.le_refl _) _
  obtain ⟨cap, w2, fa, hcv, hcap, hF⟩ := conv_bytes d.path w1
  have e2 : w1.cell? ⟨w.heap.size, 2, none⟩ = some (.string ⟨d.path.toArray⟩) := hD1.cell 2
  have HH := Lib.hid (rhexg_any d.path (some ⟨w1.heap.size, 0, none⟩) cap w2 (fun _ => ⟨_, _, rfl, lt_of_some hF.out.1, fun j hj => by rw [cell_of_row _ _ _ _ _ _ hF.out.1, Nat.zero_add]; exact hF.out.2.1 j hj⟩) hcap hlp)
  have HB2 := Lib.hid (hB1.trans (hF.out.2.2.belowB hz1 (by simp)))
  have hhl := hexS_len d.path (by omega)
  have hadd : ∀ W : World, (Op.stringOp .add ⟨#[32]⟩ ⟨(hexS d.path).toArray⟩).run Tryd.prog W = .ok (.string ⟨(32 :: hexS d.path).toArray⟩) W := add_lists (a := [32]) (b := hexS d.path) (c := 32 :: hexS d.path) rfl (by simp; omega)
  have Hw1 := Lib.hid hw1
  clear hD1 hB1 hF hhl hw1 hz1
  unfold DvA at Hw1 ⊢
  generalize hexS d.path = hx at *
  go_enter Tryd.func65, Tryd.ntmps65
  go_upto_region 1 with (fail)
  rw [Hw1.out]
  go_wp2_with (go_at_call 10; refine HH.out.mono ?_; rintro e w3 ⟨rfl, hb3⟩)
  go_ret
  exact ⟨rfl, HB2.out.trans (hb3.mono HB2.out.size)⟩
end Go.Proofs.YtopfbbnpbobhaaaDoor
